/- Reading a frame, by the reference and by the program (under way). -/
import Derived.Test.YthdiilcpelioaaaDecS
set_option linter.unusedVariables false
set_option linter.unusedSimpArgs false
namespace Go.Proofs.Ythdiilcpelioaaa
open Go.RowKit
structure FrameR where
  step : Int
  roots : Int
  leaves : List IdR
  total : Int
  tracer : Int
  quantum : Int
  code : List Int
def FrameR.v (f : FrameR) (A1 : Option Addr) (c1 : Nat) (A2 : Option Addr) (c2 : Nat) : Value := .agg #[.int .i64 f.step, .int .i64 f.roots, .slice A1 f.leaves.length c1, .int .i64 f.total, .int .i64 f.tracer, .int .i64 f.quantum, .slice A2 f.code.length c2]
def FrameR.fine (f : FrameR) : Bool := match dec f.quantum f.code with
  | none => false
  | some out => meshOk f.roots f.leaves && decide (out.length = f.leaves.length)
set_option maxHeartbeats 2000000 in
set_option maxRecDepth 100000 in
theorem implRead (f : FrameR) (A1 A2 : Option Addr) (c1 c2 : Nat) (w : World) (h1 : RdId w A1 f.leaves) (h2 : RdI w A2 f.code) (hl : f.leaves.length ≤ 1000000000000000) :
    Calls Try.prog 41 #[f.v A1 c1 A2 c2] w fun e w' => (∃ u, e = .returned (.tuple #[u, .bool f.fine])) ∧ Below w.heap.size w w' := by
  have hd := implDec f.quantum A2 f.code c2
  have hm := implMeshOk f.roots A1 f.leaves c1
  obtain ⟨step, roots, leaves, total, tracer, quantum, code⟩ := f
  unfold FrameR.v FrameR.fine
  dsimp only at hd hm h1 h2 hl ⊢
  go_enter Try.func41, Try.ntmps41
  have hB := below_new w (.cells #[.int .i64 step, .int .i64 roots, .slice A1 leaves.length c1, .int .i64 total, .int .i64 tracer, .int .i64 quantum, .slice A2 code.length c2] 75)
  have m1 : (w.alloc (.cells #[.int .i64 step, .int .i64 roots, .slice A1 leaves.length c1, .int .i64 total, .int .i64 tracer, .int .i64 quantum, .slice A2 code.length c2] 75)).cell? ⟨w.heap.size, 1, none⟩ = some (.int .i64 roots) := Lib.cell_of_heap (heap_alloc_new w _) _
  have m2 : (w.alloc (.cells #[.int .i64 step, .int .i64 roots, .slice A1 leaves.length c1, .int .i64 total, .int .i64 tracer, .int .i64 quantum, .slice A2 code.length c2] 75)).cell? ⟨w.heap.size, 2, none⟩ = some (.slice A1 leaves.length c1) := Lib.cell_of_heap (heap_alloc_new w _) _
  cases hdec : dec quantum code with
  | none =>
    go_wp2_with (go_at_call 63; refine (hd _ (h2.on hB)).mono ?_; rintro e w1 ⟨⟨v, rfl, hv⟩, hb1⟩; rw [hdec] at hv; obtain ⟨A, n, c, rfl⟩ := hv)
    go_ret2
    first
      | exact ⟨⟨_, rfl⟩, hB.trans (hb1.mono hB.size)⟩
      | exact ⟨⟨_, rfl⟩, (hB.trans (hb1.mono hB.size)).alloc (Nat.le_trans hB.size hb1.size) _⟩
  | some out =>
    have hreal : ∀ w1, Below w.heap.size w w1 → True := fun _ _ => trivial
    clear hreal
    cases hmo : meshOk roots leaves
    · go_wp2_with (first
        | (go_at_call 63; refine (hd _ (h2.on hB)).mono ?_; rintro e w1 ⟨⟨v, rfl, hv⟩, hb1⟩; rw [hdec] at hv; obtain ⟨u, rfl, hown⟩ := hv; obtain ⟨ao, cap, rfl⟩ := own_slice hown; clear hown; have n1 := cell_on hb1 m1; have n2 := cell_on hb1 m2; have hb0 := hB.trans (hb1.mono hB.size))
        | (go_at_call 64; refine (hm false _ (h1.on hb0) hl hmo).mono ?_; rintro e w2 ⟨rfl, hb2'⟩; have hb2 := hb0.trans (hb2'.mono hb0.size)))
      go_ret2
      first
        | exact ⟨⟨_, rfl⟩, hb2⟩
        | exact ⟨⟨_, rfl⟩, hb2.alloc hb2.size _⟩
    · by_cases hlen : out.length = leaves.length
      · have hx : ((out.length : Int) != (leaves.length : Int)) = false := by simp [hlen]
        go_wp2_with (first
          | (go_at_call 63; refine (hd _ (h2.on hB)).mono ?_; rintro e w1 ⟨⟨v, rfl, hv⟩, hb1⟩; rw [hdec] at hv; obtain ⟨u, rfl, hown⟩ := hv; obtain ⟨ao, cap, rfl⟩ := own_slice hown; clear hown; have n1 := cell_on hb1 m1; have n2 := cell_on hb1 m2; have hb0 := hB.trans (hb1.mono hB.size))
          | (go_at_call 64; refine (hm true _ (h1.on hb0) hl hmo).mono ?_; rintro e w2 ⟨rfl, hb2'⟩; have n3 := cell_on hb2' n2; have hb2 := hb0.trans (hb2'.mono hb0.size)))
        go_ret2
        exact ⟨⟨_, by simp only [hlen]; rfl⟩, hb2⟩
      · have hx : ((out.length : Int) != (leaves.length : Int)) = true := by simp; omega
        go_wp2_with (first
          | (go_at_call 63; refine (hd _ (h2.on hB)).mono ?_; rintro e w1 ⟨⟨v, rfl, hv⟩, hb1⟩; rw [hdec] at hv; obtain ⟨u, rfl, hown⟩ := hv; obtain ⟨ao, cap, rfl⟩ := own_slice hown; clear hown; have n1 := cell_on hb1 m1; have n2 := cell_on hb1 m2; have hb0 := hB.trans (hb1.mono hB.size))
          | (go_at_call 64; refine (hm true _ (h1.on hb0) hl hmo).mono ?_; rintro e w2 ⟨rfl, hb2'⟩; have n3 := cell_on hb2' n2; have hb2 := hb0.trans (hb2'.mono hb0.size)))
        go_ret2
        first
          | exact ⟨⟨_, by simp only [hlen]; rfl⟩, hb2⟩
          | exact ⟨⟨_, by simp only [hlen]; rfl⟩, hb2.alloc hb2.size _⟩
set_option maxHeartbeats 2000000 in
set_option maxRecDepth 100000 in
theorem specRead (f : FrameR) (A1 A2 : Option Addr) (c1 c2 : Nat) (w : World) (h1 : RdId w A1 f.leaves) (h2 : RdI w A2 f.code) (hl : f.leaves.length ≤ 1000000000000000) :
    Calls Try.prog 38 #[f.v A1 c1 A2 c2] w fun e w' => (∃ u, e = .returned (.tuple #[u, .bool f.fine])) ∧ Below w.heap.size w w' := by
  have hd := specDec f.quantum A2 f.code c2
  have hm := specMeshOk f.roots A1 f.leaves c1
  obtain ⟨step, roots, leaves, total, tracer, quantum, code⟩ := f
  unfold FrameR.v FrameR.fine
  dsimp only at hd hm h1 h2 hl ⊢
  go_enter Try.func38, Try.ntmps38
  have hB := below_new w (.cells #[.int .i64 step, .int .i64 roots, .slice A1 leaves.length c1, .int .i64 total, .int .i64 tracer, .int .i64 quantum, .slice A2 code.length c2] 75)
  have m1 : (w.alloc (.cells #[.int .i64 step, .int .i64 roots, .slice A1 leaves.length c1, .int .i64 total, .int .i64 tracer, .int .i64 quantum, .slice A2 code.length c2] 75)).cell? ⟨w.heap.size, 1, none⟩ = some (.int .i64 roots) := Lib.cell_of_heap (heap_alloc_new w _) _
  have m2 : (w.alloc (.cells #[.int .i64 step, .int .i64 roots, .slice A1 leaves.length c1, .int .i64 total, .int .i64 tracer, .int .i64 quantum, .slice A2 code.length c2] 75)).cell? ⟨w.heap.size, 2, none⟩ = some (.slice A1 leaves.length c1) := Lib.cell_of_heap (heap_alloc_new w _) _
  cases hdec : dec quantum code with
  | none =>
    go_wp2_with (go_at_call 59; refine (hd _ (h2.on hB)).mono ?_; rintro e w1 ⟨⟨v, rfl, hv⟩, hb1⟩; rw [hdec] at hv; obtain ⟨A, n, c, rfl⟩ := hv)
    go_ret2
    first
      | exact ⟨⟨_, rfl⟩, hB.trans (hb1.mono hB.size)⟩
      | exact ⟨⟨_, rfl⟩, (hB.trans (hb1.mono hB.size)).alloc (Nat.le_trans hB.size hb1.size) _⟩
  | some out =>
    have hreal : ∀ w1, Below w.heap.size w w1 → True := fun _ _ => trivial
    clear hreal
    cases hmo : meshOk roots leaves
    · go_wp2_with (first
        | (go_at_call 59; refine (hd _ (h2.on hB)).mono ?_; rintro e w1 ⟨⟨v, rfl, hv⟩, hb1⟩; rw [hdec] at hv; obtain ⟨u, rfl, hown⟩ := hv; obtain ⟨ao, cap, rfl⟩ := own_slice hown; clear hown; have n1 := cell_on hb1 m1; have n2 := cell_on hb1 m2; have hb0 := hB.trans (hb1.mono hB.size))
        | (go_at_call 60; refine (hm false _ (h1.on hb0) hl hmo).mono ?_; rintro e w2 ⟨rfl, hb2'⟩; have hb2 := hb0.trans (hb2'.mono hb0.size)))
      go_ret2
      first
        | exact ⟨⟨_, rfl⟩, hb2⟩
        | exact ⟨⟨_, rfl⟩, hb2.alloc hb2.size _⟩
    · by_cases hlen : out.length = leaves.length
      · have hx : ((out.length : Int) != (leaves.length : Int)) = false := by simp [hlen]
        go_wp2_with (first
          | (go_at_call 59; refine (hd _ (h2.on hB)).mono ?_; rintro e w1 ⟨⟨v, rfl, hv⟩, hb1⟩; rw [hdec] at hv; obtain ⟨u, rfl, hown⟩ := hv; obtain ⟨ao, cap, rfl⟩ := own_slice hown; clear hown; have n1 := cell_on hb1 m1; have n2 := cell_on hb1 m2; have hb0 := hB.trans (hb1.mono hB.size))
          | (go_at_call 60; refine (hm true _ (h1.on hb0) hl hmo).mono ?_; rintro e w2 ⟨rfl, hb2'⟩; have n3 := cell_on hb2' n2; have hb2 := hb0.trans (hb2'.mono hb0.size)))
        go_ret2
        exact ⟨⟨_, by simp only [hlen]; rfl⟩, hb2⟩
      · have hx : ((out.length : Int) != (leaves.length : Int)) = true := by simp; omega
        go_wp2_with (first
          | (go_at_call 59; refine (hd _ (h2.on hB)).mono ?_; rintro e w1 ⟨⟨v, rfl, hv⟩, hb1⟩; rw [hdec] at hv; obtain ⟨u, rfl, hown⟩ := hv; obtain ⟨ao, cap, rfl⟩ := own_slice hown; clear hown; have n1 := cell_on hb1 m1; have n2 := cell_on hb1 m2; have hb0 := hB.trans (hb1.mono hB.size))
          | (go_at_call 60; refine (hm true _ (h1.on hb0) hl hmo).mono ?_; rintro e w2 ⟨rfl, hb2'⟩; have n3 := cell_on hb2' n2; have hb2 := hb0.trans (hb2'.mono hb0.size)))
        go_ret2
        first
          | exact ⟨⟨_, by simp only [hlen]; rfl⟩, hb2⟩
          | exact ⟨⟨_, by simp only [hlen]; rfl⟩, hb2.alloc hb2.size _⟩
end Go.Proofs.Ythdiilcpelioaaa
