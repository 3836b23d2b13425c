/- Equal slices are found equal. -/
import Derived.Test.YthdiilcpelioaaaFrms
set_option linter.unusedVariables false
set_option linter.unusedSimpArgs false
namespace Go.Proofs.Ythdiilcpelioaaa
open Go.RowKit
set_option maxHeartbeats 1000000 in
theorem eqIntS (A B : Option Addr) (l : List Int) (c d : Nat) (w : World) (hA : RdI w A l) (hB : RdI w B l) (hl : l.length ≤ 1000000000000000) :
    Calls Try.prog 22 #[.slice A l.length c, .slice B l.length d] w fun e w' => e = .returned (.bool true) ∧ Below w.heap.size w w' := by
  go_enter Try.func22, Try.ntmps22
  go_wp2
  go_loopw [5] (fun i wr => ∃ k : Nat, k ≤ l.length ∧ i = .int .i64 k ∧ Below w.heap.size w wr) (fun i _ => l.length - (intOf i).toNat)
  case atStart => exact ⟨0, Nat.zero_le _, rfl, Below.refl _ _⟩
  case round =>
    obtain ⟨k, hk, rfl, hbr⟩ := hrel
    by_cases hlt : k < l.length
    · obtain ⟨b1, o1, rfl, hab, c0⟩ := (hA.on hbr) k hlt
      obtain ⟨b2, o2, rfl, hab2, e0⟩ := (hB.on hbr) k hlt
      have hz : (0 : Int) ≤ (k : Int) := by omega
      have hz2 : (k : Int) < (l.length : Int) := by omega
      go_wp2
      go_quiet (fail)
      go_wp2
      go_roundw
      case rel => exact ⟨k + 1, by omega, by go_num, below_drewN hbr _⟩
      case measure => simp [intOf]; omega
    · go_wp2
      go_ret
      exact ⟨rfl, hbr⟩
set_option maxHeartbeats 1000000 in
theorem eqId (x : IdR) (w : World) :
    Calls Try.prog 99 #[x.v, x.v] w fun e w' => e = .returned (.bool true) ∧ Below w.heap.size w w' := by
  unfold IdR.v
  go_enter Try.func99, Try.ntmps99
  go_wp2
  go_ret
  exact ⟨rfl, by go_grown⟩
set_option maxHeartbeats 1000000 in
theorem eqLedger (x : LedR) (w : World) :
    Calls Try.prog 43 #[x.v, x.v] w fun e w' => e = .returned (.bool true) ∧ Below w.heap.size w w' := by
  unfold LedR.v
  go_enter Try.func43, Try.ntmps43
  go_wp2
  go_ret
  exact ⟨rfl, by go_grown⟩
set_option maxHeartbeats 1000000 in
theorem eqIdS (A B : Option Addr) (l : List IdR) (c d : Nat) (w : World) (hA : RdId w A l) (hB : RdId w B l) (hl : l.length ≤ 1000000000000000) :
    Calls Try.prog 86 #[.slice A l.length c, .slice B l.length d] w fun e w' => e = .returned (.bool true) ∧ Below w.heap.size w w' := by
  go_enter Try.func86, Try.ntmps86
  go_wp2
  go_loopw [5] (fun i wr => ∃ k : Nat, k ≤ l.length ∧ i = .int .i64 k ∧ Below w.heap.size w wr) (fun i _ => l.length - (intOf i).toNat)
  case atStart => exact ⟨0, Nat.zero_le _, rfl, Below.refl _ _⟩
  case round =>
    obtain ⟨k, hk, rfl, hbr⟩ := hrel
    by_cases hlt : k < l.length
    · obtain ⟨b1, o1, rfl, hab, c0, c1, c2⟩ := (hA.on hbr) k hlt
      obtain ⟨b2, o2, rfl, hab2, e0, e1, e2⟩ := (hB.on hbr) k hlt
      have hz : (0 : Int) ≤ (k : Int) := by omega
      have hz2 : (k : Int) < (l.length : Int) := by omega
      have hD : Below w.heap.size w wr.drew := hbr.drew
      have hsz := hbr.size
      go_wp2
      go_region_held3 (fun w' => w'.cell? ⟨b1, o1 + k * 3, none⟩ = some (.int .i64 l[k].r) ∧ w'.cell? ⟨b1, o1 + k * 3 + 1, none⟩ = some (.int .i64 l[k].l) ∧ w'.cell? ⟨b1, o1 + k * 3 + 2, none⟩ = some (.int .i64 l[k].i) ∧ w'.cell? ⟨b2, o2 + k * 3, none⟩ = some (.int .i64 l[k].r) ∧ w'.cell? ⟨b2, o2 + k * 3 + 1, none⟩ = some (.int .i64 l[k].l) ∧ w'.cell? ⟨b2, o2 + k * 3 + 2, none⟩ = some (.int .i64 l[k].i) ∧ w.heap.size ≤ w'.heap.size ∧ Below w.heap.size w w')
        (first
          | (go_keep; done)
          | (go_keep; with_reducible assumption)
          | (go_split_ands; exact ⟨cell_on hb' (by with_reducible assumption), cell_on hb' (by with_reducible assumption), cell_on hb' (by with_reducible assumption), cell_on hb' (by with_reducible assumption), cell_on hb' (by with_reducible assumption), cell_on hb' (by with_reducible assumption), Nat.le_trans (by with_reducible assumption) hb'.size, Below.trans (by with_reducible assumption) (hb'.mono (by with_reducible assumption))⟩))
        (first
          | (go_at_call 99; refine (eqId l[k] _).mono ?_; rintro e w' ⟨rfl, hb'⟩))
      rename_i hS
      have hw := hS.2.2.2.2.2.2.2
      clear hS
      go_wp2
      go_roundw
      case rel => exact ⟨k + 1, by omega, by go_num, hw⟩
      case measure => simp [intOf]; omega
    · go_wp2
      go_ret
      exact ⟨rfl, hbr⟩
set_option maxHeartbeats 1000000 in
theorem eqLedgerS (A B : Option Addr) (l : List LedR) (c d : Nat) (w : World) (hA : RdL w A l) (hB : RdL w B l) (hl : l.length ≤ 1000000000000000) :
    Calls Try.prog 18 #[.slice A l.length c, .slice B l.length d] w fun e w' => e = .returned (.bool true) ∧ Below w.heap.size w w' := by
  go_enter Try.func18, Try.ntmps18
  go_wp2
  go_loopw [5] (fun i wr => ∃ k : Nat, k ≤ l.length ∧ i = .int .i64 k ∧ Below w.heap.size w wr) (fun i _ => l.length - (intOf i).toNat)
  case atStart => exact ⟨0, Nat.zero_le _, rfl, Below.refl _ _⟩
  case round =>
    obtain ⟨k, hk, rfl, hbr⟩ := hrel
    by_cases hlt : k < l.length
    · obtain ⟨b1, o1, rfl, hab, c0, c1, c2, c3⟩ := (hA.on hbr) k hlt
      obtain ⟨b2, o2, rfl, hab2, e0, e1, e2, e3⟩ := (hB.on hbr) k hlt
      have hz : (0 : Int) ≤ (k : Int) := by omega
      have hz2 : (k : Int) < (l.length : Int) := by omega
      have hD : Below w.heap.size w wr.drew := hbr.drew
      have hsz := hbr.size
      go_wp2
      go_region_held3 (fun w' => w'.cell? ⟨b1, o1 + k * 4, none⟩ = some (.int .i64 l[k].a) ∧ w'.cell? ⟨b1, o1 + k * 4 + 1, none⟩ = some (.int .i64 l[k].b) ∧ w'.cell? ⟨b1, o1 + k * 4 + 2, none⟩ = some (.int .i64 l[k].c) ∧ w'.cell? ⟨b1, o1 + k * 4 + 3, none⟩ = some (.int .i64 l[k].d) ∧ w'.cell? ⟨b2, o2 + k * 4, none⟩ = some (.int .i64 l[k].a) ∧ w'.cell? ⟨b2, o2 + k * 4 + 1, none⟩ = some (.int .i64 l[k].b) ∧ w'.cell? ⟨b2, o2 + k * 4 + 2, none⟩ = some (.int .i64 l[k].c) ∧ w'.cell? ⟨b2, o2 + k * 4 + 3, none⟩ = some (.int .i64 l[k].d) ∧ w.heap.size ≤ w'.heap.size ∧ Below w.heap.size w w')
        (first
          | (go_keep; done)
          | (go_keep; with_reducible assumption)
          | (go_split_ands; exact ⟨cell_on hb' (by with_reducible assumption), cell_on hb' (by with_reducible assumption), cell_on hb' (by with_reducible assumption), cell_on hb' (by with_reducible assumption), cell_on hb' (by with_reducible assumption), cell_on hb' (by with_reducible assumption), cell_on hb' (by with_reducible assumption), cell_on hb' (by with_reducible assumption), Nat.le_trans (by with_reducible assumption) hb'.size, Below.trans (by with_reducible assumption) (hb'.mono (by with_reducible assumption))⟩))
        (first
          | (go_at_call 43; refine (eqLedger l[k] _).mono ?_; rintro e w' ⟨rfl, hb'⟩))
      rename_i hS
      have hw := hS.2.2.2.2.2.2.2.2.2
      clear hS
      go_wp2
      go_roundw
      case rel => exact ⟨k + 1, by omega, by go_num, hw⟩
      case measure => simp [intOf]; omega
    · go_wp2
      go_ret
      exact ⟨rfl, hbr⟩
set_option maxHeartbeats 1000000 in
theorem eqMesh (roots : Int) (A B : Option Addr) (l : List IdR) (c d : Nat) (w : World) (hA : RdId w A l) (hB : RdId w B l) (hl : l.length ≤ 1000000000000000) :
    Calls Try.prog 65 #[.agg #[.int .i64 roots, .slice A l.length c], .agg #[.int .i64 roots, .slice B l.length d]] w fun e w' => e = .returned (.bool true) ∧ Below w.heap.size w w' := by
  go_enter Try.func65, Try.ntmps65
  have hb0 : Below w.heap.size w ((w.alloc (.cells #[.int .i64 roots, .slice A l.length c] 31)).alloc (.cells #[.int .i64 roots, .slice B l.length d] 31)) := by go_grown
  have hA' := hA.on hb0
  have hB' := hB.on hb0
  go_wp2_with (go_at_call 86; refine (eqIdS A B l _ _ _ hA' hB' hl).mono ?_; rintro e w1 ⟨rfl, hb1⟩)
  go_ret
  exact ⟨rfl, hb0.trans (hb1.mono hb0.size)⟩
set_option maxHeartbeats 2000000 in
theorem eqFrame (f : FrameR) (A1 A2 B1 B2 : Option Addr) (c1 c2 d1 d2 : Nat) (w : World) (h1 : RdId w A1 f.leaves) (h2 : RdI w A2 f.code) (h3 : RdId w B1 f.leaves) (h4 : RdI w B2 f.code) (hl1 : f.leaves.length ≤ 1000000000000000) (hl2 : f.code.length ≤ 1000000000000000) :
    Calls Try.prog 42 #[f.v A1 c1 A2 c2, f.v B1 d1 B2 d2] w fun e w' => e = .returned (.bool true) ∧ Below w.heap.size w w' := by
  obtain ⟨step, roots, leaves, total, tracer, quantum, code⟩ := f
  unfold FrameR.v
  dsimp only at h1 h2 h3 h4 hl1 hl2 ⊢
  go_enter Try.func42, Try.ntmps42
  obtain ⟨hK1, hK2, hsz, hb0⟩ := blk2 w 75 75 [.int .i64 step, .int .i64 roots, .slice A1 leaves.length c1, .int .i64 total, .int .i64 tracer, .int .i64 quantum, .slice A2 code.length c2] [.int .i64 step, .int .i64 roots, .slice B1 leaves.length d1, .int .i64 total, .int .i64 tracer, .int .i64 quantum, .slice B2 code.length d2]
  have hSZ := Lib.hid hsz
  clear hsz
  have m1 := h1.on hb0
  have m2 := h2.on hb0
  have m3 := h3.on hb0
  have m4 := h4.on hb0
  go_wp2_with (first
    | (go_at_call 65; refine (eqMesh roots A1 B1 leaves _ _ _ m1 m3 hl1).mono ?_; rintro e w1 ⟨rfl, hb1⟩; have kA := hK1.on hb1; have kB := hK2.on hb1; have p3 := kA.cell (i := 3) rfl; have p4 := kA.cell (i := 4) rfl; have p5 := kA.cell (i := 5) rfl; have p6 := kA.cell (i := 6) rfl; have q3 := kB.cell (i := 3) rfl; have q4 := kB.cell (i := 4) rfl; have q5 := kB.cell (i := 5) rfl; have q6 := kB.cell (i := 6) rfl; have hw1 := Lib.hid (hb0.trans (hb1.mono hb0.size)))
    | (go_at_call 22; refine (eqIntS A2 B2 code _ _ _ (m2.on hb1) (m4.on hb1) hl2).mono ?_; rintro e w2 ⟨rfl, hb2⟩))
  go_ret
  exact ⟨rfl, hw1.out.trans (hb2.mono hw1.out.size)⟩
set_option maxHeartbeats 4000000 in
set_option maxRecDepth 100000 in
theorem eqFrameS (A B : Option Addr) (l : List FrameR) (c d : Nat) (w : World) (hA : RdF w A l) (hB : RdF w B l) (hl : l.length ≤ 1000000000000000) (hf : ∀ f ∈ l, f.leaves.length ≤ 1000000000000000 ∧ f.code.length ≤ 1000000000000000) :
    Calls Try.prog 17 #[.slice A l.length c, .slice B l.length d] w fun e w' => e = .returned (.bool true) ∧ Below w.heap.size w w' := by
  have hF := Lib.hid hf
  clear hf
  go_enter Try.func17, Try.ntmps17
  go_wp2
  go_loopw [5] (fun i wr => ∃ k : Nat, k ≤ l.length ∧ i = .int .i64 k ∧ Below w.heap.size w wr) (fun i _ => l.length - (intOf i).toNat)
  case atStart => exact ⟨0, Nat.zero_le _, rfl, Below.refl _ _⟩
  case round =>
    obtain ⟨k, hk, rfl, hbr⟩ := hrel
    by_cases hlt : k < l.length
    · obtain ⟨b, o, A1, c1, A2, c2, rfl, hab, x0, x1, x2, x3, x4, x5, x6, x7, x8⟩ := (hA.on hbr) k hlt
      obtain ⟨b', o', B1, d1, B2, d2, rfl, hab', y0, y1, y2, y3, y4, y5, y6, y7, y8⟩ := (hB.on hbr) k hlt
      have hz : (0 : Int) ≤ (k : Int) := by omega
      have hz2 : (k : Int) < (l.length : Int) := by omega
      have hD : Below w.heap.size w wr.drew := hbr.drew
      have hsz := hbr.size
      have X7 := x7.on (hD.trans (Below.refl _ _) |> fun _ => (Below.refl wr.heap.size wr).drew)
      have X8 := x8.on (Below.refl wr.heap.size wr).drew
      have Y7 := y7.on (Below.refl wr.heap.size wr).drew
      have Y8 := y8.on (Below.refl wr.heap.size wr).drew
      obtain ⟨hl1, hl2⟩ := hF.out l[k] (List.getElem_mem hlt)
      go_wp2
      go_region_held3 (fun w' => w'.cell? ⟨b, o + k * 7, none⟩ = some (.int .i64 l[k].step) ∧ w'.cell? ⟨b, o + k * 7 + 1, none⟩ = some (.int .i64 l[k].roots) ∧ w'.cell? ⟨b, o + k * 7 + 2, none⟩ = some (.slice A1 l[k].leaves.length c1) ∧ w'.cell? ⟨b, o + k * 7 + 3, none⟩ = some (.int .i64 l[k].total) ∧ w'.cell? ⟨b, o + k * 7 + 4, none⟩ = some (.int .i64 l[k].tracer) ∧ w'.cell? ⟨b, o + k * 7 + 5, none⟩ = some (.int .i64 l[k].quantum) ∧ w'.cell? ⟨b, o + k * 7 + 6, none⟩ = some (.slice A2 l[k].code.length c2) ∧ w'.cell? ⟨b', o' + k * 7, none⟩ = some (.int .i64 l[k].step) ∧ w'.cell? ⟨b', o' + k * 7 + 1, none⟩ = some (.int .i64 l[k].roots) ∧ w'.cell? ⟨b', o' + k * 7 + 2, none⟩ = some (.slice B1 l[k].leaves.length d1) ∧ w'.cell? ⟨b', o' + k * 7 + 3, none⟩ = some (.int .i64 l[k].total) ∧ w'.cell? ⟨b', o' + k * 7 + 4, none⟩ = some (.int .i64 l[k].tracer) ∧ w'.cell? ⟨b', o' + k * 7 + 5, none⟩ = some (.int .i64 l[k].quantum) ∧ w'.cell? ⟨b', o' + k * 7 + 6, none⟩ = some (.slice B2 l[k].code.length d2) ∧ RdId w' A1 l[k].leaves ∧ RdI w' A2 l[k].code ∧ RdId w' B1 l[k].leaves ∧ RdI w' B2 l[k].code ∧ w.heap.size ≤ w'.heap.size ∧ Below w.heap.size w w')
        (first
          | (go_keep; done)
          | (go_keep; with_reducible assumption)
          | (go_split_ands; exact ⟨by go_keep, by go_keep, by go_keep, by go_keep, by go_keep, by go_keep, by go_keep, by go_keep, by go_keep, by go_keep, by go_keep, by go_keep, by go_keep, by go_keep, by with_reducible assumption, by with_reducible assumption, by with_reducible assumption, by with_reducible assumption, by go_keep, by with_reducible assumption⟩)
          | (go_split_ands; exact ⟨cell_on hb' (by with_reducible assumption), cell_on hb' (by with_reducible assumption), cell_on hb' (by with_reducible assumption), cell_on hb' (by with_reducible assumption), cell_on hb' (by with_reducible assumption), cell_on hb' (by with_reducible assumption), cell_on hb' (by with_reducible assumption), cell_on hb' (by with_reducible assumption), cell_on hb' (by with_reducible assumption), cell_on hb' (by with_reducible assumption), cell_on hb' (by with_reducible assumption), cell_on hb' (by with_reducible assumption), cell_on hb' (by with_reducible assumption), cell_on hb' (by with_reducible assumption), RdId.on (by with_reducible assumption) hb', RdI.on (by with_reducible assumption) hb', RdId.on (by with_reducible assumption) hb', RdI.on (by with_reducible assumption) hb', Nat.le_trans (by with_reducible assumption) hb'.size, Below.trans (by with_reducible assumption) (hb'.mono (by with_reducible assumption))⟩))
        (first
          | (go_at_call 42; refine (eqFrame l[k] A1 A2 B1 B2 c1 c2 d1 d2 _ (by with_reducible assumption) (by with_reducible assumption) (by with_reducible assumption) (by with_reducible assumption) hl1 hl2).mono ?_; rintro e w' ⟨rfl, hb'⟩))
      rename_i hS
      have hw := hS.2.2.2.2.2.2.2.2.2.2.2.2.2.2.2.2.2.2.2
      clear hS
      go_wp2
      go_roundw
      case rel => exact ⟨k + 1, by omega, by go_num, hw⟩
      case measure => simp [intOf]; omega
    · go_wp2
      go_ret
      exact ⟨rfl, hbr⟩
end Go.Proofs.Ythdiilcpelioaaa
