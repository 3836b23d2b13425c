/- Valid meshes, by the reference and by the program. Condition: numbers of int's range. -/
import Derived.Test.YthdiilcpelioaaaCell
set_option linter.unusedVariables false
set_option linter.unusedSimpArgs false
namespace Go.Proofs.Ythdiilcpelioaaa
open Go.RowKit
/-- A slice of addresses that reads as l. -/
def RdId (w : World) (A : Option Addr) (l : List IdR) : Prop := ∀ (i : Nat) (h : i < l.length), ∃ b o, A = some ⟨b, o, none⟩ ∧ b < w.heap.size ∧
  w.cell? ⟨b, o + i * 3, none⟩ = some (.int .i64 l[i].r) ∧ w.cell? ⟨b, o + i * 3 + 1, none⟩ = some (.int .i64 l[i].l) ∧ w.cell? ⟨b, o + i * 3 + 2, none⟩ = some (.int .i64 l[i].i)
theorem RdId.on {w w' : World} {A : Option Addr} {l : List IdR} (h : RdId w A l) (hb : Below w.heap.size w w') : RdId w' A l := fun i hi => by
  obtain ⟨b, o, e, hlt, h0, h1, h2⟩ := h i hi
  exact ⟨b, o, e, Nat.lt_of_lt_of_le hlt hb.size, cell_on hb h0, cell_on hb h1, cell_on hb h2⟩
def scan (a : Int) : List IdR → Option Int
  | [] => some a
  | x :: xs => if x.fine = true ∧ x.start = a then scan x.stop xs else none
theorem scan_append (l m : List IdR) : ∀ a, scan a (l ++ m) = (scan a l).bind fun b => scan b m := by
  induction l with
  | nil => intro a; rfl
  | cons x l ih =>
    intro a
    simp only [List.cons_append, scan]
    split
    · exact ih _
    · rfl
def meshOk (roots : Int) (l : List IdR) : Bool := match scan 0 l with
  | none => false
  | some a => inR roots 1 8 && decide (a = roots * 16)
theorem scan_take {l : List IdR} {k : Nat} (hk : k < l.length) {a : Int} (h : scan 0 (l.take k) = some a) (x : IdR) (hx : l[k] = x) :
    scan 0 (l.take (k + 1)) = if x.fine = true ∧ x.start = a then some x.stop else none := by
  rw [List.take_succ_eq_append_getElem hk, scan_append, h, hx]
  rfl
theorem scan_fail {l : List IdR} {k : Nat} (h : scan 0 (l.take k) = none) : scan 0 l = none := by
  rw [← List.take_append_drop k l, scan_append, h]
  rfl
theorem stop_bounds (x : IdR) : -1 ≤ x.stop ∧ x.stop ≤ 500 := by
  have h1 := start_bounds x
  have h2 := width_bounds x.l
  unfold IdR.stop
  omega
set_option maxHeartbeats 2000000 in
set_option maxRecDepth 100000 in
theorem specMeshOk (roots : Int) (A : Option Addr) (l : List IdR) (c : Nat) (v : Bool) (w : World) (hr : RdId w A l) (hl : l.length ≤ 1000000000000000) (h : meshOk roots l = v) :
    Calls Try.prog 60 #[.agg #[.int .i64 roots, .slice A l.length c]] w fun e w' => e = .returned (.bool v) ∧ Below w.heap.size w w' := by
  subst h
  go_enter Try.func60, Try.ntmps60
  have hb0 := below_new w (.cells #[.int .i64 roots, .slice A l.length c] 31)
  have m0 : (w.alloc (.cells #[.int .i64 roots, .slice A l.length c] 31)).cell? ⟨w.heap.size, 0, none⟩ = some (.int .i64 roots) := Lib.cell_of_heap (heap_alloc_new w _) _
  have m1 : (w.alloc (.cells #[.int .i64 roots, .slice A l.length c] 31)).cell? ⟨w.heap.size, 1, none⟩ = some (.slice A l.length c) := Lib.cell_of_heap (heap_alloc_new w _) _
  generalize hW : w.alloc (.cells #[.int .i64 roots, .slice A l.length c] 31) = W at hb0 m0 m1
  go_wp2
  clear hW
  go_loopw [3, 4] (fun a i wr => ∃ (k : Nat) (s : Int), k ≤ l.length ∧ i = .int .i64 k ∧ a = .int .i64 s ∧ (-1 ≤ s ∧ s ≤ 500) ∧ scan 0 (l.take k) = some s ∧ Below W.heap.size W wr) (fun _ i _ => l.length - (intOf i).toNat)
  case atStart => exact ⟨0, 0, Nat.zero_le _, rfl, rfl, by omega, rfl, Below.refl _ _⟩
  case round =>
    obtain ⟨k, s, hk, rfl, rfl, hsb, hsc, hbr⟩ := hrel
    have n0 := cell_on hbr m0
    have n1 := cell_on hbr m1
    have hbw : Below w.heap.size w wr := hb0.trans (hbr.mono hb0.size)
    by_cases hlt : k < l.length
    · obtain ⟨b, o, rfl, hab, c0, c1, c2⟩ := (hr.on hbw) k hlt
      have hT := Lib.hid (scan_take hlt hsc _ rfl)
      clear hsc
      cases hf : l[k].fine
      · go_wp2_with (go_at_call 77; refine (specIdOk l[k] _ _ hf).mono ?_; rintro e w1 ⟨rfl, hb1⟩)
        go_ret
        refine ⟨?_, hbw.trans (hb1.mono hbw.size)⟩
        have h1 := hT.out
        rw [if_neg (by rw [hf]; simp)] at h1
        simp [meshOk, scan_fail h1]
      by_cases hs : l[k].start = s
      · have hs' : (l[k].start != s) = false := by simpa using hs
        go_wp2_with (first
          | (go_at_call 77; refine (specIdOk l[k] _ _ hf).mono ?_; rintro e w1 ⟨rfl, hb1⟩; have a0 := cell_on hb1 c0; have a1 := cell_on hb1 c1; have a2 := cell_on hb1 c2; have n2 := cell_on hb1 n1; have hw1 := Lib.hid (hbr.trans (hb1.mono hbr.size)))
          | (go_at_call 78; refine (specStartOf l[k] _).mono ?_; rintro e w2 ⟨rfl, hb2⟩; have d0 := cell_on hb2 a0; have d1 := cell_on hb2 a1; have d2 := cell_on hb2 a2; have n3 := cell_on hb2 n2; have hw2 := Lib.hid (hw1.out.trans (hb2.mono hw1.out.size)))
          | (go_at_call 79; refine (specEnd l[k] _).mono ?_; rintro e w3 ⟨rfl, hb3⟩; have hw3 := Lib.hid (hw2.out.trans (hb3.mono hw2.out.size))))
        have h1 := hT.out
        rw [if_pos ⟨hf, hs⟩] at h1
        go_roundw
        case rel => exact ⟨k + 1, _, by omega, by go_num, rfl, stop_bounds _, h1, hw3.out⟩
        case measure => simp [intOf]; omega
      · have hs' : (l[k].start != s) = true := by simpa using hs
        go_wp2_with (first
          | (go_at_call 77; refine (specIdOk l[k] _ _ hf).mono ?_; rintro e w1 ⟨rfl, hb1⟩; have a0 := cell_on hb1 c0; have a1 := cell_on hb1 c1; have a2 := cell_on hb1 c2; have n2 := cell_on hb1 n1; have hw1 := Lib.hid (hbw.trans (hb1.mono hbw.size)))
          | (go_at_call 78; refine (specStartOf l[k] _).mono ?_; rintro e w2 ⟨rfl, hb2⟩; have hw2 := Lib.hid (hw1.out.trans (hb2.mono hw1.out.size))))
        go_ret
        refine ⟨?_, hw2.out⟩
        have h1 := hT.out
        rw [if_neg (fun h => hs h.2)] at h1
        simp [meshOk, scan_fail h1]
    · have hkl : k = l.length := by omega
      rw [hkl, List.take_length] at hsc
      cases hr8 : inR roots 1 8
      · go_wp2_with (go_at_call 66; refine (l01In _ _ _ _ _ hr8).mono ?_; rintro e w1 ⟨rfl, rfl⟩)
        go_ret
        exact ⟨by simp [meshOk, hsc, hr8], hbw⟩
      · have hrb := inR_true.1 hr8
        have e1 : IntKind.i64.wrap (roots * 16) = roots * 16 := IntWalk.i64_in _ (by omega)
        have e2 : (s == roots * 16) = decide (s = roots * 16) := by by_cases h : s = roots * 16 <;> simp [h]
        go_wp2_with (go_at_call 66; refine (l01In _ _ _ _ _ hr8).mono ?_; rintro e w1 ⟨rfl, rfl⟩)
        go_ret
        exact ⟨by simp [meshOk, hsc, hr8, e2], hbw⟩
set_option maxHeartbeats 2000000 in
set_option maxRecDepth 100000 in
theorem implMeshOk (roots : Int) (A : Option Addr) (l : List IdR) (c : Nat) (v : Bool) (w : World) (hr : RdId w A l) (hl : l.length ≤ 1000000000000000) (h : meshOk roots l = v) :
    Calls Try.prog 64 #[.agg #[.int .i64 roots, .slice A l.length c]] w fun e w' => e = .returned (.bool v) ∧ Below w.heap.size w w' := by
  subst h
  go_enter Try.func64, Try.ntmps64
  have hb0 := below_new w (.cells #[.int .i64 roots, .slice A l.length c] 31)
  have m0 : (w.alloc (.cells #[.int .i64 roots, .slice A l.length c] 31)).cell? ⟨w.heap.size, 0, none⟩ = some (.int .i64 roots) := Lib.cell_of_heap (heap_alloc_new w _) _
  have m1 : (w.alloc (.cells #[.int .i64 roots, .slice A l.length c] 31)).cell? ⟨w.heap.size, 1, none⟩ = some (.slice A l.length c) := Lib.cell_of_heap (heap_alloc_new w _) _
  generalize hW : w.alloc (.cells #[.int .i64 roots, .slice A l.length c] 31) = W at hb0 m0 m1
  go_wp2
  clear hW
  go_loopw [3, 9] (fun a i wr => ∃ (k : Nat) (s : Int), k ≤ l.length ∧ i = .int .i64 k ∧ a = .int .i64 s ∧ (-1 ≤ s ∧ s ≤ 500) ∧ scan 0 (l.take k) = some s ∧ Below W.heap.size W wr) (fun _ i _ => l.length - (intOf i).toNat)
  case atStart => exact ⟨0, 0, Nat.zero_le _, rfl, rfl, by omega, rfl, Below.refl _ _⟩
  case round =>
    obtain ⟨k, s, hk, rfl, rfl, hsb, hsc, hcr0⟩ := hrel
    have hcr := Lib.hid hcr0
    have hbr : Below w.heap.size w wr := hb0.trans (hcr0.mono hb0.size)
    by_cases hlt : k < l.length
    · obtain ⟨b, o, rfl, hab, c0, c1, c2⟩ := (hr.on hbr) k hlt
      have hT := Lib.hid (scan_take hlt hsc _ rfl)
      clear hsc
      have hB1 := Lib.hid (hbr.alloc hbr.size (.cells #[.int .i64 l[k].r, .int .i64 l[k].l, .int .i64 l[k].i] 101))
      have hcW := Lib.hid (hcr0.alloc hcr0.size (.cells #[.int .i64 l[k].r, .int .i64 l[k].l, .int .i64 l[k].i] 101))
      obtain ⟨x0, x1, x2, x3, x4⟩ := three_init wr (.int .i64 l[k].r) (.int .i64 l[k].l) (.int .i64 l[k].i) 101
      clear x3 x4
      cases hf : l[k].fine
      · go_wp2_with (go_at_call 83; refine (implIdOk l[k] _ _ hf).mono ?_; rintro e w1 ⟨rfl, hb1⟩)
        go_ret
        refine ⟨?_, hB1.out.trans (hb1.mono hB1.out.size)⟩
        have h1 := hT.out
        rw [if_neg (by rw [hf]; simp)] at h1
        simp [meshOk, scan_fail h1]
      by_cases hs : l[k].start = s
      · have hs' : (l[k].start != s) = false := by simpa using hs
        go_wp2_with (first
          | (go_at_call 83; refine (implIdOk l[k] _ _ hf).mono ?_; rintro e w1 ⟨rfl, hb1⟩; have a0 := cell_on hb1 x0; have a1 := cell_on hb1 x1; have a2 := cell_on hb1 x2; have hw1 := Lib.hid (hB1.out.trans (hb1.mono hB1.out.size)))
          | (go_at_call 84; refine (implStartOf l[k] _).mono ?_; rintro e w2 ⟨rfl, hb2⟩; have d0 := cell_on hb2 a0; have d1 := cell_on hb2 a1; have d2 := cell_on hb2 a2; have hw2 := Lib.hid (hw1.out.trans (hb2.mono hw1.out.size)))
          | (go_at_call 85; refine (implEnd l[k] _).mono ?_; rintro e w3 ⟨rfl, hb3⟩; have hw3 := Lib.hid (hw2.out.trans (hb3.mono hw2.out.size))))
        have h1 := hT.out
        rw [if_pos ⟨hf, hs⟩] at h1
        go_roundw
        case rel => exact ⟨k + 1, _, by omega, by go_num, rfl, stop_bounds _, h1, hcW.out.trans ((hb1.mono hcW.out.size).trans ((hb2.mono (Nat.le_trans hcW.out.size hb1.size)).trans (hb3.mono (Nat.le_trans (Nat.le_trans hcW.out.size hb1.size) hb2.size))))⟩
        case measure => simp [intOf]; omega
      · have hs' : (l[k].start != s) = true := by simpa using hs
        go_wp2_with (first
          | (go_at_call 83; refine (implIdOk l[k] _ _ hf).mono ?_; rintro e w1 ⟨rfl, hb1⟩; have a0 := cell_on hb1 x0; have a1 := cell_on hb1 x1; have a2 := cell_on hb1 x2; have hw1 := Lib.hid (hB1.out.trans (hb1.mono hB1.out.size)))
          | (go_at_call 84; refine (implStartOf l[k] _).mono ?_; rintro e w2 ⟨rfl, hb2⟩; have hw2 := Lib.hid (hw1.out.trans (hb2.mono hw1.out.size))))
        go_ret
        refine ⟨?_, hw2.out⟩
        have h1 := hT.out
        rw [if_neg (fun h => hs h.2)] at h1
        simp [meshOk, scan_fail h1]
    · have hkl : k = l.length := by omega
      rw [hkl, List.take_length] at hsc
      have n0 := cell_on (hcr.out) m0
      cases hr8 : inR roots 1 8
      · go_wp2_with (go_at_call 31; refine (within _ _ _ _ _ hr8).mono ?_; rintro e w1 ⟨rfl, rfl⟩)
        go_ret
        exact ⟨by simp [meshOk, hsc, hr8], hbr⟩
      · have hrb := inR_true.1 hr8
        have e1 : IntKind.i64.wrap (roots * 16) = roots * 16 := IntWalk.i64_in _ (by omega)
        have e2 : (s == roots * 16) = decide (s = roots * 16) := by by_cases h : s = roots * 16 <;> simp [h]
        go_wp2_with (go_at_call 31; refine (within _ _ _ _ _ hr8).mono ?_; rintro e w1 ⟨rfl, rfl⟩)
        go_ret
        exact ⟨by simp [meshOk, hsc, hr8, e2], hbr⟩
end Go.Proofs.Ythdiilcpelioaaa
