/- What the small functions on acts return: a number within bounds, valid borders and acts, acts of one number. No condition. -/
import Derived.Test.YthdiilcpelioaaaDoorLedLaw
set_option linter.unusedVariables false
set_option linter.unusedSimpArgs false
namespace Go.Proofs.YthdiilcpelioaaaDoor
open Go.RowKit
def inR (x a b : Int) : Bool := decide (a ≤ x) && decide (x ≤ b)
theorem l01In (x a b : Int) (v : Bool) (w : World) (h : inR x a b = v) :
    Calls Tryd.prog 30 #[.int .i64 x, .int .i64 a, .int .i64 b] w fun e w' => e = .returned (.bool v) ∧ w' = w := by
  subst h
  go_enter Tryd.func30, Tryd.ntmps30
  by_cases h : a ≤ x
  all_goals
    have hd := h
    go_wp2
    go_ret
    refine ⟨by first | (simp [inR, h]; done) | (simp [inR, h]; omega), rfl⟩
theorem within (x a b : Int) (v : Bool) (w : World) (h : inR x a b = v) :
    Calls Tryd.prog 32 #[.int .i64 x, .int .i64 a, .int .i64 b] w fun e w' => e = .returned (.bool v) ∧ w' = w := by
  subst h
  go_enter Tryd.func32, Tryd.ntmps32
  by_cases h : a ≤ x
  all_goals
    have hd := h
    go_wp2
    go_ret
    refine ⟨by first | (simp [inR, h]; done) | (simp [inR, h]; omega), rfl⟩
theorem isRain (x : Int) (v : Bool) (w : World) (h : inR x 0 10000 = v) :
    Calls Tryd.prog 33 #[.int .i64 x] w fun e w' => e = .returned (.bool v) ∧ w' = w := by
  go_enter Tryd.func33, Tryd.ntmps33
  go_wp2_with (go_at_call 32; refine (within _ _ _ _ _ h).mono ?_; rintro e w1 ⟨rfl, rfl⟩)
  go_ret
  exact ⟨by simp, rfl⟩
theorem isRate (x : Int) (v : Bool) (w : World) (h : inR x 0 1000 = v) :
    Calls Tryd.prog 35 #[.int .i64 x] w fun e w' => e = .returned (.bool v) ∧ w' = w := by
  go_enter Tryd.func35, Tryd.ntmps35
  go_wp2_with (go_at_call 32; refine (within _ _ _ _ _ h).mono ?_; rintro e w1 ⟨rfl, rfl⟩)
  go_ret
  exact ⟨by simp, rfl⟩
def brdOk (a b c : Int) : Bool := inR a 0 10000 && (inR b 0 1000 && inR c 0 250)
theorem specBorderOk (a b c : Int) (v : Bool) (w : World) (h : brdOk a b c = v) :
    Calls Tryd.prog 31 #[.agg #[.int .i64 a, .int .i64 b, .int .i64 c]] w fun e w' => e = .returned (.bool v) ∧ Below w.heap.size w w' := by
  subst h
  unfold brdOk
  go_enter Tryd.func31, Tryd.ntmps31
  cases h0 : inR a 0 10000 <;> cases h1 : inR b 0 1000 <;> cases h2 : inR c 0 250
  all_goals
    go_wp2_with (go_at_call 30; refine (l01In _ _ _ _ _ (by assumption)).mono ?_; rintro e w1 ⟨rfl, rfl⟩)
    go_ret
    refine ⟨by simp, ?_⟩
    go_grown
theorem implBorderOk (a b c : Int) (v : Bool) (w : World) (h : brdOk a b c = v) :
    Calls Tryd.prog 34 #[.agg #[.int .i64 a, .int .i64 b, .int .i64 c]] w fun e w' => e = .returned (.bool v) ∧ Below w.heap.size w w' := by
  subst h
  unfold brdOk
  go_enter Tryd.func34, Tryd.ntmps34
  cases h0 : inR a 0 10000 <;> cases h1 : inR b 0 1000 <;> cases h2 : inR c 0 250
  all_goals
    go_wp2_with (go_at_call 32; refine (within _ _ _ _ _ (by assumption)).mono ?_; rintro e w1 ⟨rfl, rfl⟩)
    go_ret
    refine ⟨by simp, ?_⟩
    go_grown
def many (k : Int) : Bool := decide (k = 4) || (decide (k = 6) || decide (k = 7))
theorem isSingle (k : Int) (v : Bool) (w : World) (h : (!many k) = v) :
    Calls Tryd.prog 22 #[.int .i64 k] w fun e w' => e = .returned (.bool v) ∧ w' = w := by
  subst h
  go_enter Tryd.func22, Tryd.ntmps22
  by_cases h4 : k = 4
  · subst h4
    go_wp2
    go_ret
    exact ⟨by simp [many], rfl⟩
  by_cases h6 : k = 6
  · subst h6
    go_wp2
    go_ret
    exact ⟨by simp [many], rfl⟩
  have b4 : (k != 4) = true := by simpa using h4
  have b6 : (k != 6) = true := by simpa using h6
  go_wp2
  go_ret
  exact ⟨by by_cases h7 : k = 7 <;> simp [many, h4, h6, bne, h7], rfl⟩
/-- When an act is valid. -/
def actOk (k a b c : Int) : Bool :=
  if k = 1 then (decide (b = 0) && decide (c = 0)) && inR a 1 20
  else if k = 2 then (decide (b = 0) && decide (c = 0)) && inR a 0 10000
  else if k = 3 then (decide (b = 0) && decide (c = 0)) && inR a 0 10000
  else if k = 4 then brdOk a b c
  else if k = 5 then (decide (b = 0) && decide (c = 0)) && inR a 0 1000
  else if k = 6 then inR a 0 1000000 && (inR b 0 1000000 && inR c 0 100)
  else if k = 7 then inR a 0 127 && (inR b 1 10000 && inR c 0 1000)
  else false
def plainB (k x : Int) : Int := if many k = true then x else 0
theorem l37Plain (k a b c : Int) (w : World) :
    Calls Tryd.prog 29 #[led k a b c] w fun e w' => e = .returned (led k a (plainB k b) (plainB k c)) ∧ Below w.heap.size w w' := by
  unfold led
  go_enter Tryd.func29, Tryd.ntmps29
  by_cases h4 : k = 4
  · subst h4
    go_wp2
    go_returns
    exact ⟨by simp [many, plainB], by go_grown⟩
  by_cases h6 : k = 6
  · subst h6
    go_wp2
    go_returns
    exact ⟨by simp [many, plainB], by go_grown⟩
  by_cases h7 : k = 7
  · subst h7
    go_wp2
    go_returns
    exact ⟨by simp [many, plainB], by go_grown⟩
  have b4 : (k == 4) = false := by simpa using h4
  have b6 : (k == 6) = false := by simpa using h6
  have b7 : (k == 7) = false := by simpa using h7
  go_wp2
  go_returns
  exact ⟨by simp [many, plainB, h4, h6, h7], by go_grown⟩
theorem eqAct (d : Nat) (w : World) (x0 x1 x2 x3 y0 y1 y2 y3 : Int) :
    (Op.equalIn (d + 2) 32 (.agg #[.int .i64 x0, .int .i64 x1, .int .i64 x2, .int .i64 x3]) (.agg #[.int .i64 y0, .int .i64 y1, .int .i64 y2, .int .i64 y3])).run Tryd.prog w = .ok (decide (x0 = y0) && (decide (x1 = y1) && (decide (x2 = y2) && decide (x3 = y3)))) w := by
  by_cases h0 : x0 = y0
  · by_cases h1 : x1 = y1
    · by_cases h2 : x2 = y2
      · by_cases h3 : x3 = y3 <;> go_simp
      · go_simp
    · go_simp
  · go_simp
/-- Does an act of one number bear others? -/
def spare (k b c : Int) : Bool := !(decide (b = plainB k b) && decide (c = plainB k c))
theorem neqAct (w : World) (k a b c : Int) :
    (binOp .neq 32 (.agg #[.int .i64 k, .int .i64 a, .int .i64 b, .int .i64 c]) (.agg #[.int .i64 k, .int .i64 a, .int .i64 (plainB k b), .int .i64 (plainB k c)])).run Tryd.prog w = .ok (.bool (spare k b c)) w := by
  rw [run_neq_struct, eqAct 9998]
  simp [spare]
attribute [local go_sem ↓] neqAct
set_option maxHeartbeats 1000000 in
set_option maxRecDepth 100000 in
theorem specActOk (k a b c : Int) (v : Bool) (w : World) (h : actOk k a b c = v) :
    Calls Tryd.prog 20 #[led k a b c] w fun e w' => e = .returned (.bool v) ∧ Below w.heap.size w w' := by
  subst h
  unfold led
  go_enter Tryd.func20, Tryd.ntmps20
  have hB0 : Below w.heap.size w (w.alloc (.cells #[.int .i64 k, .int .i64 a, .int .i64 b, .int .i64 c] 32)).drew := ((Below.refl _ w).alloc (Nat.le_refl _) _).drew
  have e10000 : ∀ x : Int, inR x 0 10000 = inR x 0 10000 := fun _ => rfl
  clear e10000
  cases hq : spare k b c
  all_goals
    go_wp2_with fail
    go_region_held3 (fun w' => w'.cell? ⟨w.heap.size, 0, none⟩ = some (.int .i64 k) ∧ w'.cell? ⟨w.heap.size, 1, none⟩ = some (.int .i64 a) ∧ w'.cell? ⟨w.heap.size, 2, none⟩ = some (.int .i64 b) ∧ w'.cell? ⟨w.heap.size, 3, none⟩ = some (.int .i64 c) ∧ w.heap.size < w'.heap.size ∧ Below w.heap.size w w')
      (first
        | (go_keep; done)
        | (go_keep; assumption)
        | (go_split_ands; exact led_step hb' ⟨by assumption, by assumption, by assumption, by assumption, by assumption, by assumption⟩))
      (first
        | (go_at_call 29; refine (l37Plain k a b c _).mono ?_; rintro e w' ⟨rfl, hb'⟩; unfold led))
    rename_i hS
    obtain ⟨c0, c1, c2, c3, c4, c5⟩ := hS
    clear hb' hB0
  · have hs : b = plainB k b ∧ c = plainB k c := by simpa [spare] using hq
    by_cases h1 : k = 1
    · subst h1
      have hs' : b = 0 ∧ c = 0 := by simpa [plainB, many] using hs
      clear hs
      obtain ⟨rfl, rfl⟩ := hs'
      cases ha : inR a 1 20
      all_goals
        go_wp2_with (go_at_call 30; refine (l01In _ _ _ _ _ (by assumption)).mono ?_; rintro e w1 ⟨rfl, rfl⟩)
        go_ret
        exact ⟨by simp [actOk, ha], c5⟩
    by_cases h2 : k = 2
    · subst h2
      have hs' : b = 0 ∧ c = 0 := by simpa [plainB, many] using hs
      clear hs
      obtain ⟨rfl, rfl⟩ := hs'
      cases ha : inR a 0 10000
      all_goals
        go_wp2_with (go_at_call 30; refine (l01In _ _ _ _ _ (by assumption)).mono ?_; rintro e w1 ⟨rfl, rfl⟩)
        go_ret
        exact ⟨by simp [actOk, ha], c5⟩
    by_cases h3 : k = 3
    · subst h3
      have hs' : b = 0 ∧ c = 0 := by simpa [plainB, many] using hs
      clear hs
      obtain ⟨rfl, rfl⟩ := hs'
      cases ha : inR a 0 10000
      all_goals
        go_wp2_with (go_at_call 30; refine (l01In _ _ _ _ _ (by assumption)).mono ?_; rintro e w1 ⟨rfl, rfl⟩)
        go_ret
        exact ⟨by simp [actOk, ha], c5⟩
    by_cases h4 : k = 4
    · subst h4
      clear hs
      go_wp2_with (go_at_call 31; refine (specBorderOk a b c _ _ rfl).mono ?_; rintro e w1 ⟨rfl, hb1⟩)
      go_ret
      exact ⟨by simp [actOk], c5.trans (hb1.mono (Nat.le_of_lt c4))⟩
    by_cases h5 : k = 5
    · subst h5
      have hs' : b = 0 ∧ c = 0 := by simpa [plainB, many] using hs
      clear hs
      obtain ⟨rfl, rfl⟩ := hs'
      cases ha : inR a 0 1000
      all_goals
        go_wp2_with (go_at_call 30; refine (l01In _ _ _ _ _ (by assumption)).mono ?_; rintro e w1 ⟨rfl, rfl⟩)
        go_ret
        exact ⟨by simp [actOk, ha], c5⟩
    by_cases h6 : k = 6
    · subst h6
      clear hs
      cases ha : inR a 0 1000000 <;> cases hb : inR b 0 1000000 <;> cases hc : inR c 0 100
      all_goals
        go_wp2_with (go_at_call 30; refine (l01In _ _ _ _ _ (by assumption)).mono ?_; rintro e w1 ⟨rfl, rfl⟩)
        go_ret
        exact ⟨by simp [actOk, ha, hb, hc], c5⟩
    by_cases h7 : k = 7
    · subst h7
      clear hs
      cases ha : inR a 0 127 <;> cases hb : inR b 1 10000 <;> cases hc : inR c 0 1000
      all_goals
        go_wp2_with (go_at_call 30; refine (l01In _ _ _ _ _ (by assumption)).mono ?_; rintro e w1 ⟨rfl, rfl⟩)
        go_ret
        exact ⟨by simp [actOk, ha, hb, hc], c5⟩
    clear hs
    have n1 : (k == 1) = false := by simpa using h1
    have n2 : (k == 2) = false := by simpa using h2
    have n3 : (k == 3) = false := by simpa using h3
    have n4 : (k == 4) = false := by simpa using h4
    have n5 : (k == 5) = false := by simpa using h5
    have n6 : (k == 6) = false := by simpa using h6
    have n7 : (k == 7) = false := by simpa using h7
    go_wp2
    go_ret
    exact ⟨by simp [actOk, h1, h2, h3, h4, h5, h6, h7], c5⟩
  · go_wp2
    go_ret
    refine ⟨?_, c5⟩
    have hs : ¬ (b = plainB k b ∧ c = plainB k c) := by
      intro h
      rw [spare, ← h.1, ← h.2] at hq
      simp at hq
    by_cases h4 : k = 4
    · exact absurd (by simp [h4, plainB, many]) hs
    by_cases h6 : k = 6
    · exact absurd (by simp [h6, plainB, many]) hs
    by_cases h7 : k = 7
    · exact absurd (by simp [h7, plainB, many]) hs
    have h0 : ¬ (b = 0 ∧ c = 0) := by simpa [plainB, many, h4, h6, h7] using hs
    have h0' : (decide (b = 0) && decide (c = 0)) = false := by simpa using h0
    simp [actOk, h4, h6, h7, h0']
end Go.Proofs.YthdiilcpelioaaaDoor
