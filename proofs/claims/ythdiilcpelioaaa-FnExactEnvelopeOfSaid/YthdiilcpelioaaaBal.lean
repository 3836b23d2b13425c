/- Balanced meshes, by the reference and by the program. Condition: the leaves are valid addresses. -/
import Derived.Test.YthdiilcpelioaaaMesh
set_option linter.unusedVariables false
set_option linter.unusedSimpArgs false
namespace Go.Proofs.Ythdiilcpelioaaa
open Go.RowKit
instance : Inhabited IdR := ⟨⟨0, 0, 0⟩⟩
def lvl (l : List IdR) (i : Nat) : Int := (l.getD i default).l
def unb (l : List IdR) (i : Nat) : Bool := decide (1 < lvl l i - lvl l (i + 1)) || decide (lvl l i - lvl l (i + 1) < -1)
def firstUn (l : List IdR) : Int := match (List.range (l.length - 1)).find? (unb l) with
  | some i => i
  | none => -1
def balOk (roots : Int) (l : List IdR) : Bool := meshOk roots l && decide (firstUn l < 0)
theorem find_range {p : Nat → Bool} {n k : Nat} (hk : k < n) (h : ∀ i, i < k → p i = false) (h1 : p k = true) : (List.range n).find? p = some k := by
  rw [List.find?_eq_some_iff_getElem]
  refine ⟨h1, k, by simpa using hk, by simp, fun j hj => ?_⟩
  simpa using h j hj
theorem find_range_none {p : Nat → Bool} {n : Nat} (h : ∀ i, i < n → p i = false) : (List.range n).find? p = none := by
  rw [List.find?_eq_none]
  intro i hi
  rw [h i (List.mem_range.1 hi)]; simp
theorem firstUn_at {l : List IdR} {k : Nat} (hk : k + 1 < l.length) (h : ∀ i, i < k → unb l i = false) (h1 : unb l k = true) : firstUn l = k := by
  unfold firstUn
  rw [find_range (by omega) h h1]
theorem firstUn_none {l : List IdR} (h : ∀ i, i < l.length - 1 → unb l i = false) : firstUn l = -1 := by
  unfold firstUn
  rw [find_range_none h]
theorem scan_fine {l : List IdR} : ∀ {a b : Int}, scan a l = some b → ∀ x ∈ l, x.fine = true := by
  induction l with
  | nil => intro a b _ x hx; cases hx
  | cons y l ih =>
    intro a b h x hx
    rw [scan] at h
    split at h
    · rename_i hy
      rcases List.mem_cons.1 hx with rfl | hx
      · exact hy.1
      · exact ih h x hx
    · cases h
theorem meshOk_fine {roots : Int} {l : List IdR} (h : meshOk roots l = true) : ∀ x ∈ l, x.fine = true := by
  unfold meshOk at h
  split at h
  · cases h
  · rename_i a ha
    exact scan_fine ha
theorem fine_level {x : IdR} (h : x.fine = true) : 0 ≤ x.l ∧ x.l ≤ 4 := by
  obtain ⟨r, l, i⟩ := x
  exact inR_true.1 (fine_bounds h).1
def mxI (a b : Int) : Int := if a < b then b else a
theorem absolute (n : Int) (w : World) (h0 : -1000000000000000000 ≤ n) (h1 : n ≤ 1000000000000000000) :
    Calls Try.prog 93 #[.int .i64 n] w fun e w' => e = .returned (.int .i64 (n.natAbs : Int)) ∧ w' = w := by
  go_enter Try.func93, Try.ntmps93
  have hi : IntKind.i64.wrap (0 - n) = -n := by rw [IntWalk.i64_in _ (by omega)]; omega
  by_cases h : n < -n
  · go_wp2
    go_ret
    exact ⟨by simp; omega, rfl⟩
  · go_wp2
    go_ret
    exact ⟨by simp; omega, rfl⟩
set_option maxHeartbeats 2000000 in
theorem implUnbalanced (roots : Int) (A : Option Addr) (l : List IdR) (c : Nat) (w : World) (hr : RdId w A l) (hl : l.length ≤ 1000000000000000) (hf : ∀ x ∈ l, x.fine = true) :
    Calls Try.prog 71 #[.agg #[.int .i64 roots, .slice A l.length c]] w fun e w' => e = .returned (.int .i64 (firstUn l)) ∧ Below w.heap.size w w' := by
  have hF := Lib.hid hf
  clear hf
  go_enter Try.func71, Try.ntmps71
  have hb0 := below_new w (.cells #[.int .i64 roots, .slice A l.length c] 31)
  have m1 : (w.alloc (.cells #[.int .i64 roots, .slice A l.length c] 31)).cell? ⟨w.heap.size, 1, none⟩ = some (.slice A l.length c) := Lib.cell_of_heap (heap_alloc_new w _) _
  generalize hW : w.alloc (.cells #[.int .i64 roots, .slice A l.length c] 31) = W at hb0 m1
  have e0 : IntKind.i64.wrap ((l.length : Int) - 1) = (l.length : Int) - 1 := IntWalk.i64_in _ (by omega)
  go_wp2
  clear hW
  go_loopw [8] (fun i wr => ∃ k : Nat, i = .int .i64 k ∧ (k = 0 ∨ k < l.length) ∧ Hid (∀ i, i < k → unb l i = false) ∧ Below W.heap.size W wr) (fun i _ => l.length - (intOf i).toNat)
  case atStart => exact ⟨0, rfl, .inl rfl, Lib.hid (fun i h => by omega), Below.refl _ _⟩
  case round =>
    obtain ⟨k, rfl, hk, hall, hbr⟩ := hrel
    have n1 := cell_on hbr m1
    have hbw : Below w.heap.size w wr := hb0.trans (hbr.mono hb0.size)
    by_cases hlt : k + 1 < l.length
    · obtain ⟨b, o, rfl, hab, c0, c1, c2⟩ := (hr.on hbw) k (by omega)
      obtain ⟨b', o', heq, hab', d0, d1, d2⟩ := (hr.on hbw) (k + 1) hlt
      simp only [Option.some.injEq, Addr.mk.injEq, and_true] at heq
      obtain ⟨rfl, rfl⟩ := heq
      have x1 := fine_level (hF.out l[k] (List.getElem_mem _))
      have x2 := fine_level (hF.out l[k + 1] (List.getElem_mem _))
      have hu : unb l k = (decide (1 < l[k].l - l[k + 1].l) || decide (l[k].l - l[k + 1].l < -1)) := by
        unfold unb lvl
        rw [List.getD_eq_getElem?_getD, List.getD_eq_getElem?_getD, List.getElem?_eq_getElem (by omega), List.getElem?_eq_getElem hlt]; rfl
      have hU := Lib.hid hu
      clear hu c0 c2 d0 d2
      generalize l[k].l = a at c1 x1 hU
      generalize l[k + 1].l = b1 at d1 x2 hU
      have s1 : IntKind.i64.wrap (a - b1) = a - b1 := IntWalk.i64_in _ (by omega)
      have s2 : IntKind.i64.wrap ((k : Int) + 1) = (k : Int) + 1 := IntWalk.i64_in _ (by omega)
      have s3 : ((k : Int) + 1).toNat = k + 1 := by omega
      have s4 : (0 : Int) ≤ (k : Int) := by omega
      have s5 : (0 : Int) ≤ (k : Int) + 1 := by omega
      have s6 : (k : Int) < (l.length : Int) := by omega
      have s7 : (k : Int) + 1 < (l.length : Int) := by omega
      have s8 : (k : Int) < (l.length : Int) - 1 := by omega
      have habs : ∀ w, Calls Try.prog 93 #[.int .i64 (a - b1)] w fun e w' => e = .returned (.int .i64 ((a - b1).natAbs : Int)) ∧ w' = w := fun w => absolute _ w (by omega) (by omega)
      generalize hm : ((a - b1).natAbs : Int) = m at habs
      have hub : unb l k = decide (1 < m) := by
        rw [hU.out, ← hm]
        by_cases h1 : 1 < a - b1
        · simp [h1]; omega
        · by_cases h2 : a - b1 < -1
          · simp [h2]; omega
          · simp [h1, h2]; omega
      have hUB := Lib.hid hub
      clear hm hub
      go_wp2_with fail
      go_quiet ((go_at_call 93; exact Calls.quiet_of_same (habs _)))
      clear habs
      cases hd : decide (1 < m)
      · go_wp2
        go_roundw
        case rel =>
          refine ⟨k + 1, by go_num, by omega, Lib.hid (fun i hi => ?_), below_drewN hbr _⟩
          by_cases hik : i < k
          · exact hall.out i hik
          · obtain rfl : i = k := by omega
            rw [hUB.out, hd]
        case measure => simp [intOf]; omega
      · have hres := Lib.hid (firstUn_at hlt hall.out (by rw [hUB.out, hd]))
        go_wp2
        go_ret
        exact ⟨by rw [hres.out]; rfl, below_drewN hbw _⟩
    · have hge : ¬ ((k : Int) < (l.length : Int) - 1) := by omega
      have hres := Lib.hid (firstUn_none (l := l) (fun i hi => hall.out i (by omega)))
      go_wp2
      go_ret
      exact ⟨by rw [hres.out]; rfl, hbw⟩
set_option maxHeartbeats 2000000 in
theorem specFirst (roots : Int) (A : Option Addr) (l : List IdR) (c : Nat) (w : World) (hr : RdId w A l) (hl : l.length ≤ 1000000000000000) (hf : ∀ x ∈ l, x.fine = true) :
    Calls Try.prog 89 #[.agg #[.int .i64 roots, .slice A l.length c]] w fun e w' => e = .returned (.int .i64 (firstUn l)) ∧ Below w.heap.size w w' := by
  have hF := Lib.hid hf
  clear hf
  go_enter Try.func89, Try.ntmps89
  have hb0 := below_new w (.cells #[.int .i64 roots, .slice A l.length c] 31)
  have m1 : (w.alloc (.cells #[.int .i64 roots, .slice A l.length c] 31)).cell? ⟨w.heap.size, 1, none⟩ = some (.slice A l.length c) := Lib.cell_of_heap (heap_alloc_new w _) _
  generalize hW : w.alloc (.cells #[.int .i64 roots, .slice A l.length c] 31) = W at hb0 m1
  go_wp2
  clear hW
  go_loopw [3] (fun i wr => ∃ k : Nat, i = .int .i64 k ∧ (k = 0 ∨ k < l.length) ∧ Hid (∀ i, i < k → unb l i = false) ∧ Below W.heap.size W wr) (fun i _ => l.length - (intOf i).toNat)
  case atStart => exact ⟨0, rfl, .inl rfl, Lib.hid (fun i h => by omega), Below.refl _ _⟩
  case round =>
    obtain ⟨k, rfl, hk, hall, hbr⟩ := hrel
    have n1 := cell_on hbr m1
    have hbw : Below w.heap.size w wr := hb0.trans (hbr.mono hb0.size)
    have s2 : IntKind.i64.wrap ((k : Int) + 1) = (k : Int) + 1 := IntWalk.i64_in _ (by omega)
    by_cases hlt : k + 1 < l.length
    · obtain ⟨b, o, rfl, hab, c0, c1, c2⟩ := (hr.on hbw) k (by omega)
      obtain ⟨b', o', heq, hab', d0, d1, d2⟩ := (hr.on hbw) (k + 1) hlt
      simp only [Option.some.injEq, Addr.mk.injEq, and_true] at heq
      obtain ⟨rfl, rfl⟩ := heq
      have x1 := fine_level (hF.out l[k] (List.getElem_mem _))
      have x2 := fine_level (hF.out l[k + 1] (List.getElem_mem _))
      have hu : unb l k = (decide (1 < l[k].l - l[k + 1].l) || decide (l[k].l - l[k + 1].l < -1)) := by
        unfold unb lvl
        rw [List.getD_eq_getElem?_getD, List.getD_eq_getElem?_getD, List.getElem?_eq_getElem (by omega), List.getElem?_eq_getElem hlt]; rfl
      have hU := Lib.hid hu
      clear hu c0 c2 d0 d2
      generalize l[k].l = a at c1 x1 hU
      generalize l[k + 1].l = b1 at d1 x2 hU
      have s1 : IntKind.i64.wrap (a - b1) = a - b1 := IntWalk.i64_in _ (by omega)
      have s3 : ((k : Int) + 1).toNat = k + 1 := by omega
      have s4 : (0 : Int) ≤ (k : Int) := by omega
      have s5 : (0 : Int) ≤ (k : Int) + 1 := by omega
      have s6 : (k : Int) < (l.length : Int) := by omega
      have s7 : (k : Int) + 1 < (l.length : Int) := by omega
      clear x1 x2
      go_wp2_with fail
      go_quiet (fail)
      cases hd : decide (1 < a - b1)
      · cases hd2 : decide (a - b1 < -1)
        · go_wp2
          go_roundw
          case rel =>
            refine ⟨k + 1, by go_num, by omega, Lib.hid (fun i hi => ?_), below_drewN hbr _⟩
            by_cases hik : i < k
            · exact hall.out i hik
            · obtain rfl : i = k := by omega
              rw [hU.out, hd, hd2]; rfl
          case measure => simp [intOf]; omega
        · have hres := Lib.hid (firstUn_at hlt hall.out (by rw [hU.out, hd, hd2]; rfl))
          go_wp2
          go_ret
          exact ⟨by rw [hres.out]; rfl, below_drewN hbw _⟩
      · have hres := Lib.hid (firstUn_at hlt hall.out (by rw [hU.out, hd]; rfl))
        go_wp2
        go_ret
        exact ⟨by rw [hres.out]; rfl, below_drewN hbw _⟩
    · have hge : ¬ ((k : Int) + 1 < (l.length : Int)) := by omega
      have hres := Lib.hid (firstUn_none (l := l) (fun i hi => hall.out i (by omega)))
      go_wp2
      go_ret
      exact ⟨by rw [hres.out]; rfl, hbw⟩
set_option maxHeartbeats 1000000 in
theorem specBalanced (roots : Int) (A : Option Addr) (l : List IdR) (c : Nat) (v : Bool) (w : World) (hr : RdId w A l) (hl : l.length ≤ 1000000000000000) (h : balOk roots l = v) :
    Calls Try.prog 87 #[.agg #[.int .i64 roots, .slice A l.length c]] w fun e w' => e = .returned (.bool v) ∧ Below w.heap.size w w' := by
  subst h
  go_enter Try.func87, Try.ntmps87
  have hb0 := below_new w (.cells #[.int .i64 roots, .slice A l.length c] 31)
  have m0 : (w.alloc (.cells #[.int .i64 roots, .slice A l.length c] 31)).cell? ⟨w.heap.size, 0, none⟩ = some (.int .i64 roots) := Lib.cell_of_heap (heap_alloc_new w _) _
  have m1 : (w.alloc (.cells #[.int .i64 roots, .slice A l.length c] 31)).cell? ⟨w.heap.size, 1, none⟩ = some (.slice A l.length c) := Lib.cell_of_heap (heap_alloc_new w _) _
  have hr0 := hr.on hb0
  cases hm : meshOk roots l
  · go_wp2_with (go_at_call 60; refine (specMeshOk roots A l c _ _ hr0 hl hm).mono ?_; rintro e w1 ⟨rfl, hb1⟩)
    go_ret
    exact ⟨by simp [balOk, hm], hb0.trans (hb1.mono hb0.size)⟩
  · have hf := Lib.hid (meshOk_fine hm)
    go_wp2_with (first
      | (go_at_call 60; refine (specMeshOk roots A l c _ _ hr0 hl hm).mono ?_; rintro e w1 ⟨rfl, hb1⟩; have n0 := cell_on hb1 m0; have n1 := cell_on hb1 m1; have hw1 := Lib.hid (hb0.trans (hb1.mono hb0.size)))
      | (go_at_call 89; refine (specFirst roots A l c _ (hr0.on hb1) hl hf.out).mono ?_; rintro e w2 ⟨rfl, hb2⟩; have hw2 := hw1.out.trans (hb2.mono hw1.out.size)))
    go_ret
    exact ⟨by simp [balOk, hm], hw2⟩
set_option maxHeartbeats 1000000 in
theorem implBalanced (roots : Int) (A : Option Addr) (l : List IdR) (c : Nat) (v : Bool) (w : World) (hr : RdId w A l) (hl : l.length ≤ 1000000000000000) (h : balOk roots l = v) :
    Calls Try.prog 54 #[.agg #[.int .i64 roots, .slice A l.length c]] w fun e w' => e = .returned (.bool v) ∧ Below w.heap.size w w' := by
  subst h
  go_enter Try.func54, Try.ntmps54
  have hb0 := below_new w (.cells #[.int .i64 roots, .slice A l.length c] 31)
  have m0 : (w.alloc (.cells #[.int .i64 roots, .slice A l.length c] 31)).cell? ⟨w.heap.size, 0, none⟩ = some (.int .i64 roots) := Lib.cell_of_heap (heap_alloc_new w _) _
  have m1 : (w.alloc (.cells #[.int .i64 roots, .slice A l.length c] 31)).cell? ⟨w.heap.size, 1, none⟩ = some (.slice A l.length c) := Lib.cell_of_heap (heap_alloc_new w _) _
  have hr0 := hr.on hb0
  cases hm : meshOk roots l
  · go_wp2_with (go_at_call 64; refine (implMeshOk roots A l c _ _ hr0 hl hm).mono ?_; rintro e w1 ⟨rfl, hb1⟩)
    go_ret
    exact ⟨by simp [balOk, hm], hb0.trans (hb1.mono hb0.size)⟩
  · have hf := Lib.hid (meshOk_fine hm)
    go_wp2_with (first
      | (go_at_call 64; refine (implMeshOk roots A l c _ _ hr0 hl hm).mono ?_; rintro e w1 ⟨rfl, hb1⟩; have n0 := cell_on hb1 m0; have n1 := cell_on hb1 m1; have hw1 := Lib.hid (hb0.trans (hb1.mono hb0.size)))
      | (go_at_call 71; refine (implUnbalanced roots A l c _ (hr0.on hb1) hl hf.out).mono ?_; rintro e w2 ⟨rfl, hb2⟩; have hw2 := hw1.out.trans (hb2.mono hw1.out.size)))
    go_ret
    exact ⟨by simp [balOk, hm], hw2⟩
end Go.Proofs.Ythdiilcpelioaaa
