/- Whether the program's ActOk takes an act. No condition. -/
import Derived.Test.YthdiilcpelioaaaDoorAct
set_option linter.unusedVariables false
set_option linter.unusedSimpArgs false
namespace Go.Proofs.YthdiilcpelioaaaDoor
open Go.RowKit
set_option maxHeartbeats 4000000 in
set_option maxRecDepth 100000 in
theorem implActOk (k a b c : Int) (v : Bool) (w : World) (h : actOk k a b c = v) :
    Calls Tryd.prog 21 #[led k a b c] w fun e w' => e = .returned (.bool v) ∧ Below w.heap.size w w' := by
  subst h
  unfold led
  go_enter Tryd.func21, Tryd.ntmps21
  by_cases h1 : k = 1
  · subst h1
    by_cases hb : b = 0
    · subst hb
      by_cases hc : c = 0
      · subst hc
        cases ha : inR a 1 20
        all_goals
          go_wp2_with (go_at_call 32; refine (within _ _ _ _ _ (by assumption)).mono ?_; rintro e w1 ⟨rfl, rfl⟩)
          go_ret
          exact ⟨by simp [actOk, ha], by go_grown⟩
      · have nc : (c == 0) = false := by simpa using hc
        go_wp2
        go_ret
        exact ⟨by simp [actOk, hc], by go_grown⟩
    · have nb : (b == 0) = false := by simpa using hb
      go_wp2
      go_ret
      exact ⟨by simp [actOk, hb], by go_grown⟩
  by_cases h2 : k = 2
  · subst h2
    by_cases hb : b = 0
    · subst hb
      by_cases hc : c = 0
      · subst hc
        cases ha : inR a 0 10000
        all_goals
          go_wp2_with (go_at_call 33; refine (isRain _ _ _ (by assumption)).mono ?_; rintro e w1 ⟨rfl, rfl⟩)
          go_ret
          exact ⟨by simp [actOk, ha], by go_grown⟩
      · have nc : (c == 0) = false := by simpa using hc
        go_wp2
        go_ret
        exact ⟨by simp [actOk, hc], by go_grown⟩
    · have nb : (b == 0) = false := by simpa using hb
      go_wp2
      go_ret
      exact ⟨by simp [actOk, hb], by go_grown⟩
  by_cases h3 : k = 3
  · subst h3
    by_cases hb : b = 0
    · subst hb
      by_cases hc : c = 0
      · subst hc
        cases ha : inR a 0 10000
        all_goals
          go_wp2_with (go_at_call 33; refine (isRain _ _ _ (by assumption)).mono ?_; rintro e w1 ⟨rfl, rfl⟩)
          go_ret
          exact ⟨by simp [actOk, ha], by go_grown⟩
      · have nc : (c == 0) = false := by simpa using hc
        go_wp2
        go_ret
        exact ⟨by simp [actOk, hc], by go_grown⟩
    · have nb : (b == 0) = false := by simpa using hb
      go_wp2
      go_ret
      exact ⟨by simp [actOk, hb], by go_grown⟩
  by_cases h5 : k = 5
  · subst h5
    by_cases hb : b = 0
    · subst hb
      by_cases hc : c = 0
      · subst hc
        cases ha : inR a 0 1000
        all_goals
          go_wp2_with (go_at_call 35; refine (isRate _ _ _ (by assumption)).mono ?_; rintro e w1 ⟨rfl, rfl⟩)
          go_ret
          exact ⟨by simp [actOk, ha], by go_grown⟩
      · have nc : (c == 0) = false := by simpa using hc
        go_wp2
        go_ret
        exact ⟨by simp [actOk, hc], by go_grown⟩
    · have nb : (b == 0) = false := by simpa using hb
      go_wp2
      go_ret
      exact ⟨by simp [actOk, hb], by go_grown⟩
  obtain ⟨B, hB⟩ : ∃ B, (b == 0) = B := ⟨_, rfl⟩
  obtain ⟨C, hC⟩ : ∃ C, (c == 0) = C := ⟨_, rfl⟩
  by_cases h4 : k = 4
  · subst h4
    cases B <;> cases C
    all_goals
      go_wp2_with (go_at_call 34; refine (implBorderOk a b c _ _ rfl).mono ?_; rintro e w1 ⟨rfl, hb1⟩)
      go_ret
      exact ⟨by simp [actOk], ((Below.refl _ w).alloc (Nat.le_refl _) _).trans (hb1.mono (by simp))⟩
  by_cases h6 : k = 6
  · subst h6
    cases ha : inR a 0 1000000 <;> cases hb : inR b 0 1000000 <;> cases hc : inR c 0 100 <;> cases B <;> cases C
    all_goals
      go_wp2_with (go_at_call 32; refine (within _ _ _ _ _ (by assumption)).mono ?_; rintro e w1 ⟨rfl, rfl⟩)
      go_ret
      exact ⟨by simp [actOk, ha, hb, hc], by go_grown⟩
  by_cases h7 : k = 7
  · subst h7
    cases ha : inR a 0 127 <;> cases hb : inR b 1 10000 <;> cases hc : inR c 0 1000 <;> cases B <;> cases C
    all_goals
      go_wp2_with (go_at_call 32; refine (within _ _ _ _ _ (by assumption)).mono ?_; rintro e w1 ⟨rfl, rfl⟩)
      go_ret
      exact ⟨by simp [actOk, ha, hb, hc], by go_grown⟩
  have n1 : (k == 1) = false := by simpa using h1
  have n2 : (k == 2) = false := by simpa using h2
  have n3 : (k == 3) = false := by simpa using h3
  have n4 : (k == 4) = false := by simpa using h4
  have n5 : (k == 5) = false := by simpa using h5
  have n6 : (k == 6) = false := by simpa using h6
  have n7 : (k == 7) = false := by simpa using h7
  cases B <;> cases C
  all_goals
    go_wp2
    go_ret
    exact ⟨by simp [actOk, h1, h2, h3, h4, h5, h6, h7], by go_grown⟩
end Go.Proofs.YthdiilcpelioaaaDoor
