/- Cells' addresses: valid ones, widths, starts and ends, of the reference and of the program. No condition but int's range. -/
import Derived.Test.YthdiilcpelioaaaBase
set_option linter.unusedVariables false
set_option linter.unusedSimpArgs false
namespace Go.Proofs.Ythdiilcpelioaaa
open Go.RowKit
structure IdR where
  r : Int
  l : Int
  i : Int
def IdR.v (x : IdR) : Value := .agg #[.int .i64 x.r, .int .i64 x.l, .int .i64 x.i]
def IdR.ok (x : IdR) : Prop := isInt x.r ∧ isInt x.l ∧ isInt x.i
def most (l : Int) : Int := if l = 0 then 0 else if l = 1 then 1 else if l = 2 then 3 else if l = 3 then 7 else 15
def wide (l : Int) : Int := if l = 0 then 16 else if l = 1 then 8 else if l = 2 then 4 else if l = 3 then 2 else 1
def width (l : Int) : Int := if inR l 0 4 = true then wide l else 0
def IdR.fine (x : IdR) : Bool := inR x.r 0 7 && (inR x.l 0 4 && inR x.i 0 (most x.l))
def IdR.start (x : IdR) : Int := if x.fine = true then x.r * 16 + x.i * wide x.l else -1
def IdR.stop (x : IdR) : Int := x.start + width x.l
theorem five {l : Int} (h : inR l 0 4 = true) : l = 0 ∨ l = 1 ∨ l = 2 ∨ l = 3 ∨ l = 4 := by
  rw [inR_true] at h; omega
set_option maxHeartbeats 1000000 in
theorem specIdOk (x : IdR) (v : Bool) (w : World) (h : x.fine = v) :
    Calls Try.prog 77 #[x.v] w fun e w' => e = .returned (.bool v) ∧ Below w.heap.size w w' := by
  subst h
  obtain ⟨r, l, i⟩ := x
  unfold IdR.v IdR.fine
  go_enter Try.func77, Try.ntmps77
  cases hr : inR r 0 7
  · go_wp2_with (go_at_call 66; refine (l01In _ _ _ _ _ (by assumption)).mono ?_; rintro e w1 ⟨rfl, rfl⟩)
    go_ret
    exact ⟨by simp, by go_grown⟩
  cases hl : inR l 0 4
  · go_wp2_with (go_at_call 66; refine (l01In _ _ _ _ _ (by assumption)).mono ?_; rintro e w1 ⟨rfl, rfl⟩)
    go_ret
    exact ⟨by simp, by go_grown⟩
  rcases five hl with rfl | rfl | rfl | rfl | rfl
  all_goals
    by_cases h0 : 0 ≤ i
    all_goals
      go_wp2_with (go_at_call 66; refine (l01In _ _ _ _ _ (by assumption)).mono ?_; rintro e w1 ⟨rfl, rfl⟩)
      go_ret
      refine ⟨?_, by go_grown⟩
      first
        | (simp [inR, h0]; done)
        | (simp [inR, h0, most]; omega)
theorem isLevel (l : Int) (v : Bool) (w : World) (h : inR l 0 4 = v) :
    Calls Try.prog 97 #[.int .i64 l] w fun e w' => e = .returned (.bool v) ∧ w' = w := by
  go_enter Try.func97, Try.ntmps97
  go_wp2_with (go_at_call 31; refine (within _ _ _ _ _ h).mono ?_; rintro e w1 ⟨rfl, rfl⟩)
  go_ret
  exact ⟨by simp, rfl⟩
theorem specWidthOf (l : Int) (w : World) :
    Calls Try.prog 95 #[.int .i64 l] w fun e w' => e = .returned (.int .i64 (width l)) ∧ w' = w := by
  go_enter Try.func95, Try.ntmps95
  cases hl : inR l 0 4
  · go_wp2_with (go_at_call 66; refine (l01In _ _ _ _ _ hl).mono ?_; rintro e w1 ⟨rfl, rfl⟩)
    go_ret
    exact ⟨by simp [width, hl], rfl⟩
  rcases five hl with rfl | rfl | rfl | rfl | rfl
  all_goals
    go_wp2_with (go_at_call 66; refine (l01In _ _ _ _ _ hl).mono ?_; rintro e w1 ⟨rfl, rfl⟩)
    go_ret
    exact ⟨by simp [width, hl, wide], rfl⟩
theorem implWidthOf (l : Int) (w : World) :
    Calls Try.prog 98 #[.int .i64 l] w fun e w' => e = .returned (.int .i64 (width l)) ∧ w' = w := by
  go_enter Try.func98, Try.ntmps98
  cases hl : inR l 0 4
  · go_wp2_with (go_at_call 97; refine (isLevel _ _ _ hl).mono ?_; rintro e w1 ⟨rfl, rfl⟩)
    go_ret
    exact ⟨by simp [width, hl], rfl⟩
  rcases five hl with rfl | rfl | rfl | rfl | rfl
  all_goals
    go_wp2_with (go_at_call 97; refine (isLevel _ _ _ hl).mono ?_; rintro e w1 ⟨rfl, rfl⟩)
    go_ret
    exact ⟨by simp [width, hl, wide], rfl⟩
theorem fine_bounds {r l i : Int} (h : (IdR.mk r l i).fine = true) : inR l 0 4 = true ∧ (0 ≤ r ∧ r ≤ 7) ∧ (0 ≤ i ∧ i ≤ 15) := by
  simp only [IdR.fine, Bool.and_eq_true] at h
  obtain ⟨h0, h1, h2⟩ := h
  have h3 : most l ≤ 15 := by unfold most; split <;> (try split) <;> (try split) <;> (try split) <;> omega
  rw [inR_true] at h0 h2
  exact ⟨h1, h0, by omega⟩
theorem wide_bounds (l : Int) : 1 ≤ wide l ∧ wide l ≤ 16 := by unfold wide; split <;> (try split) <;> (try split) <;> (try split) <;> omega
theorem width_bounds (l : Int) : 0 ≤ width l ∧ width l ≤ 16 := by have := wide_bounds l; unfold width; split <;> omega
theorem start_bounds (x : IdR) : -1 ≤ x.start ∧ x.start ≤ 400 := by
  unfold IdR.start
  split
  · rename_i h
    obtain ⟨r, l, i⟩ := x
    have hb := fine_bounds h
    have hww := wide_bounds l
    have hm1 : 0 ≤ i * wide l := Int.mul_nonneg hb.2.2.1 (by omega)
    have hm2 : i * wide l ≤ 15 * 16 := Int.le_trans (Int.mul_le_mul_of_nonneg_right hb.2.2.2 (by omega)) (by omega)
    have := hb.2.1
    dsimp only
    omega
  · omega
theorem below_drewN {B : Nat} {w w' : World} (h : Below B w w') (n : Nat) : Below B w (w'.drewN n) := h.trans ⟨rfl, rfl, rfl, Nat.le_refl _, fun _ _ => rfl⟩
set_option maxHeartbeats 1000000 in
theorem implIdOk (x : IdR) (v : Bool) (w : World) (h : x.fine = v) :
    Calls Try.prog 83 #[x.v] w fun e w' => e = .returned (.bool v) ∧ Below w.heap.size w w' := by
  subst h
  obtain ⟨r, l, i⟩ := x
  unfold IdR.v IdR.fine
  go_enter Try.func83, Try.ntmps83
  have fin : ∀ nq, Below w.heap.size w ((w.alloc (.cells #[.int .i64 r, .int .i64 l, .int .i64 i] 101)).drewN nq) := fun nq => below_drewN (below_new w _) nq
  cases hr : inR r 0 7
  · go_wp2_with fail
    go_quiet (first
      | (go_at_call 31; exact Calls.quiet_of_same (within _ _ _ _ _ hr)))
    go_wp2
    go_ret
    exact ⟨by simp, fin _⟩
  cases hl : inR l 0 4
  · go_wp2_with fail
    go_quiet (first
      | (go_at_call 31; exact Calls.quiet_of_same (within _ _ _ _ _ hr))
      | (go_at_call 97; exact Calls.quiet_of_same (isLevel _ _ _ hl)))
    go_wp2
    go_ret
    exact ⟨by simp, fin _⟩
  rcases five hl with rfl | rfl | rfl | rfl | rfl
  all_goals
    go_wp2_with fail
    go_quiet (first
      | (go_at_call_of 31 r; exact Calls.quiet_of_same (within r _ _ _ _ hr))
      | (go_at_call 97; exact Calls.quiet_of_same (isLevel _ _ _ hl))
      | (go_at_call_of 31 i; exact Calls.quiet_of_same (within i _ _ _ _ rfl)))
    go_wp2
    go_ret
    exact ⟨by simp [most], fin _⟩
set_option maxHeartbeats 1000000 in
theorem specStartOf (x : IdR) (w : World) :
    Calls Try.prog 78 #[x.v] w fun e w' => e = .returned (.int .i64 x.start) ∧ Below w.heap.size w w' := by
  have hIdOk := specIdOk x
  obtain ⟨r, l, i⟩ := x
  unfold IdR.start
  cases hf : (IdR.mk r l i).fine
  · unfold IdR.v at hIdOk ⊢
    go_enter Try.func78, Try.ntmps78
    go_wp2_with (go_at_call 77; refine (hIdOk _ _ hf).mono ?_; rintro e w1 ⟨rfl, hb1⟩)
    go_ret
    exact ⟨by simp, (below_new _ _).trans (hb1.mono (by simp))⟩
  · have hb := fine_bounds hf
    have hl : inR l 0 4 = true := hb.1
    have hr0 := hb.2.1
    have hi0 := hb.2.2
    have hwide : width l = wide l := by simp [width, hl]
    have hww := wide_bounds l
    have e1 : IntKind.i64.wrap (r * 16) = r * 16 := IntWalk.i64_in _ (by omega)
    have hm1 : 0 ≤ i * wide l := Int.mul_nonneg hi0.1 (by omega)
    have hm2 : i * wide l ≤ 15 * 16 := Int.le_trans (Int.mul_le_mul_of_nonneg_right hi0.2 (by omega)) (by omega)
    have e2 : IntKind.i64.wrap (i * wide l) = i * wide l := IntWalk.i64_in _ (by omega)
    have e3 : IntKind.i64.wrap (r * 16 + i * wide l) = r * 16 + i * wide l := IntWalk.i64_in _ (by omega)
    clear hb hr0 hi0 hww hm1 hm2 hl
    unfold IdR.v at hIdOk ⊢
    go_enter Try.func78, Try.ntmps78
    go_wp2_with (go_at_call 77; refine (hIdOk _ _ hf).mono ?_; rintro e w1 ⟨rfl, hb1⟩; have S1 := three_step hb1 (three_init w (.int .i64 r) (.int .i64 l) (.int .i64 i) 101); obtain ⟨c0, c1, c2, c3, c4⟩ := S1)
    have hD : Below w.heap.size w w1.drew := c4.drew
    clear hb1 hIdOk
    go_region_held3 (fun w' => w'.cell? ⟨w.heap.size, 0, none⟩ = some (.int .i64 r) ∧ w'.cell? ⟨w.heap.size, 1, none⟩ = some (.int .i64 l) ∧ w'.cell? ⟨w.heap.size, 2, none⟩ = some (.int .i64 i) ∧ w.heap.size < w'.heap.size ∧ Below w.heap.size w w')
      (first
        | (go_keep; done)
        | (go_keep; with_reducible assumption)
        | (go_split_ands; exact three_step hb' ⟨by with_reducible assumption, by with_reducible assumption, by with_reducible assumption, by with_reducible assumption, by with_reducible assumption⟩))
      (first
        | (go_at_call 95; refine (specWidthOf _ _).mono ?_; rintro e w' ⟨rfl, rfl⟩; rw [hwide]))
    rename_i hS
    have hw := hS.2.2.2.2
    clear hS
    go_wp2
    go_ret
    exact ⟨by simp, hw⟩
set_option maxHeartbeats 1000000 in
theorem implStartOf (x : IdR) (w : World) :
    Calls Try.prog 84 #[x.v] w fun e w' => e = .returned (.int .i64 x.start) ∧ Below w.heap.size w w' := by
  have hIdOk := implIdOk x
  obtain ⟨r, l, i⟩ := x
  unfold IdR.start
  cases hf : (IdR.mk r l i).fine
  · unfold IdR.v at hIdOk ⊢
    go_enter Try.func84, Try.ntmps84
    go_wp2_with (go_at_call 83; refine (hIdOk _ _ hf).mono ?_; rintro e w1 ⟨rfl, hb1⟩)
    go_ret
    exact ⟨by simp, (below_new _ _).trans (hb1.mono (by simp))⟩
  · have hb := fine_bounds hf
    have hl : inR l 0 4 = true := hb.1
    have hr0 := hb.2.1
    have hi0 := hb.2.2
    have hwide : width l = wide l := by simp [width, hl]
    have hww := wide_bounds l
    have e1 : IntKind.i64.wrap (r * 16) = r * 16 := IntWalk.i64_in _ (by omega)
    have hm1 : 0 ≤ i * wide l := Int.mul_nonneg hi0.1 (by omega)
    have hm2 : i * wide l ≤ 15 * 16 := Int.le_trans (Int.mul_le_mul_of_nonneg_right hi0.2 (by omega)) (by omega)
    have e2 : IntKind.i64.wrap (i * wide l) = i * wide l := IntWalk.i64_in _ (by omega)
    have e3 : IntKind.i64.wrap (r * 16 + i * wide l) = r * 16 + i * wide l := IntWalk.i64_in _ (by omega)
    clear hb hr0 hi0 hww hm1 hm2 hl
    unfold IdR.v at hIdOk ⊢
    go_enter Try.func84, Try.ntmps84
    go_wp2_with (go_at_call 83; refine (hIdOk _ _ hf).mono ?_; rintro e w1 ⟨rfl, hb1⟩; have S1 := three_step hb1 (three_init w (.int .i64 r) (.int .i64 l) (.int .i64 i) 101); obtain ⟨c0, c1, c2, c3, c4⟩ := S1)
    have hD : Below w.heap.size w w1.drew := c4.drew
    clear hb1 hIdOk
    go_region_held3 (fun w' => w'.cell? ⟨w.heap.size, 0, none⟩ = some (.int .i64 r) ∧ w'.cell? ⟨w.heap.size, 1, none⟩ = some (.int .i64 l) ∧ w'.cell? ⟨w.heap.size, 2, none⟩ = some (.int .i64 i) ∧ w.heap.size < w'.heap.size ∧ Below w.heap.size w w')
      (first
        | (go_keep; done)
        | (go_keep; with_reducible assumption)
        | (go_split_ands; exact three_step hb' ⟨by with_reducible assumption, by with_reducible assumption, by with_reducible assumption, by with_reducible assumption, by with_reducible assumption⟩))
      (first
        | (go_at_call 98; refine (implWidthOf _ _).mono ?_; rintro e w' ⟨rfl, rfl⟩; rw [hwide]))
    rename_i hS
    have hw := hS.2.2.2.2
    clear hS
    go_wp2
    go_ret
    exact ⟨by simp, hw⟩
set_option maxHeartbeats 1000000 in
theorem specEnd (x : IdR) (w : World) :
    Calls Try.prog 79 #[x.v] w fun e w' => e = .returned (.int .i64 x.stop) ∧ Below w.heap.size w w' := by
  have hst := specStartOf x
  have hbd := start_bounds x
  have hwb := width_bounds x.l
  have e1 : IntKind.i64.wrap (x.start + width x.l) = x.stop := IntWalk.i64_in _ (by omega)
  obtain ⟨r, l, i⟩ := x
  unfold IdR.v at hst ⊢
  go_enter Try.func79, Try.ntmps79
  go_wp2_with fail
  have hB0 : Below w.heap.size w (w.alloc (.cells #[.int .i64 r, .int .i64 l, .int .i64 i] 101)).drew := ((Below.refl _ w).alloc (Nat.le_refl _) _).drew
  clear hbd hwb
  go_region_held3 (fun w' => w'.cell? ⟨w.heap.size, 0, none⟩ = some (.int .i64 r) ∧ w'.cell? ⟨w.heap.size, 1, none⟩ = some (.int .i64 l) ∧ w'.cell? ⟨w.heap.size, 2, none⟩ = some (.int .i64 i) ∧ w.heap.size < w'.heap.size ∧ Below w.heap.size w w')
      (first
        | (go_keep; done)
        | (go_keep; with_reducible assumption)
        | (go_split_ands; exact three_step hb' ⟨by with_reducible assumption, by with_reducible assumption, by with_reducible assumption, by with_reducible assumption, by with_reducible assumption⟩))
    (first
      | (go_at_call 78; refine (hst _).mono ?_; rintro e w' ⟨rfl, hb'⟩)
      | (go_at_call 95; refine (specWidthOf _ _).mono ?_; rintro e w' ⟨rfl, rfl⟩))
  all_goals
    rename_i hS
    have hw := hS.2.2.2.2
    clear hS
    go_wp2
    go_ret
    exact ⟨by simp, hw⟩
set_option maxHeartbeats 1000000 in
theorem implEnd (x : IdR) (w : World) :
    Calls Try.prog 85 #[x.v] w fun e w' => e = .returned (.int .i64 x.stop) ∧ Below w.heap.size w w' := by
  have hst := implStartOf x
  have hbd := start_bounds x
  have hwb := width_bounds x.l
  have e1 : IntKind.i64.wrap (x.start + width x.l) = x.stop := IntWalk.i64_in _ (by omega)
  obtain ⟨r, l, i⟩ := x
  unfold IdR.v at hst ⊢
  go_enter Try.func85, Try.ntmps85
  go_wp2_with fail
  have hB0 : Below w.heap.size w (w.alloc (.cells #[.int .i64 r, .int .i64 l, .int .i64 i] 101)).drew := ((Below.refl _ w).alloc (Nat.le_refl _) _).drew
  clear hbd hwb
  go_region_held3 (fun w' => w'.cell? ⟨w.heap.size, 0, none⟩ = some (.int .i64 r) ∧ w'.cell? ⟨w.heap.size, 1, none⟩ = some (.int .i64 l) ∧ w'.cell? ⟨w.heap.size, 2, none⟩ = some (.int .i64 i) ∧ w.heap.size < w'.heap.size ∧ Below w.heap.size w w')
      (first
        | (go_keep; done)
        | (go_keep; with_reducible assumption)
        | (go_split_ands; exact three_step hb' ⟨by with_reducible assumption, by with_reducible assumption, by with_reducible assumption, by with_reducible assumption, by with_reducible assumption⟩))
    (first
      | (go_at_call 84; refine (hst _).mono ?_; rintro e w' ⟨rfl, hb'⟩)
      | (go_at_call 98; refine (implWidthOf _ _).mono ?_; rintro e w' ⟨rfl, rfl⟩))
  all_goals
    rename_i hS
    have hw := hS.2.2.2.2
    clear hS
    go_wp2
    go_ret
    exact ⟨by simp, hw⟩
end Go.Proofs.Ythdiilcpelioaaa
