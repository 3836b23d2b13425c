/- FnExactScriptText: it returns true. Condition: the acts' numbers are of int's range, the table internal/strconv.uint64pow10 holds Go's powers of ten. -/
import Derived.Test.YthdiilcpelioaaaDoorScrI
set_option linter.unusedVariables false
set_option linter.unusedSimpArgs false
namespace Go.Proofs.YthdiilcpelioaaaDoor
open Go.RowKit
theorem szMany (A : Option Addr) (n c : Nat) (w : World) (h : n ≤ 1000000000000000) (hn : 1048576 < n) :
    Calls Tryd.prog 12 #[.slice A n c, .int .i64 1048576] w fun e w' => e = .returned (.int .i64 (-1)) ∧ w = w' := by
  go_enter Tryd.func12, Tryd.ntmps12
  have hi : IntKind.i64.wrap (1048576 - (n : Int)) = 1048576 - (n : Int) := IntWalk.i64_in _ (by omega)
  have hd : decide ((1048576 - (n : Int)) < 0) = true := decide_eq_true (by omega)
  go_wp2
  go_ret
  exact ⟨rfl, rfl⟩
theorem szFew (A : Option Addr) (n c : Nat) (w : World) (hn : n ≤ 1048576) :
    Calls Tryd.prog 12 #[.slice A n c, .int .i64 1048576] w fun e w' => e = .returned (.int .i64 (1048576 - n)) ∧ w = w' := by
  go_enter Tryd.func12, Tryd.ntmps12
  have hi : IntKind.i64.wrap (1048576 - (n : Int)) = 1048576 - (n : Int) := IntWalk.i64_in _ (by omega)
  have hd : decide ((1048576 - (n : Int)) < 0) = false := decide_eq_false (by omega)
  go_wp2
  go_ret
  exact ⟨rfl, rfl⟩
theorem specScript (A : Option Addr) (l : List ActR) (w : World) (hr : RdA w A l) (ho : ∀ x ∈ l, x.ok) :
    Calls Tryd.prog 13 #[.slice A l.length l.length] w fun e w' => e = .returned (.tuple #[.string (scrS l), .bool (scrOk l)]) ∧ Below w.heap.size w w' := by
  by_cases h : l.length ≤ 30
  · exact specScriptFew A l _ w hr ho h
  · have h' : scrOk l = false := by simp [scrOk, h]
    have := specScriptMany A l l.length w hr ho (by omega)
    rwa [show scrS l = ⟨#[]⟩ by simp [scrS, h'], h']
theorem implScript (A : Option Addr) (l : List ActR) (w w0 : World) (hr : RdA w A l) (ho : ∀ x ∈ l, x.ok) (hP : Pow w0) (hb : Below w0.heap.size w0 w) :
    Calls Tryd.prog 15 #[.slice A l.length l.length] w fun e w' => e = .returned (.tuple #[.string (scrS l), .bool (scrOk l)]) ∧ Below w.heap.size w w' := by
  by_cases h : l.length ≤ 30
  · exact implScriptFew A l _ w hr ho h (Pow.on hP hb)
  · have h' : scrOk l = false := by simp [scrOk, h]
    have := implScriptMany A l l.length w (by omega)
    rwa [show scrS l = ⟨#[]⟩ by simp [scrS, h'], h']
theorem toActS' (A : Option Addr) (l : List ActR) (c : Nat) (w w0 : World) (hr : RdA w0 A l) (hb : Below w0.heap.size w0 w) (hl : l.length * 32 ≤ 140737488355328) :
    Calls Tryd.prog 14 #[.slice A l.length c] w fun e w' => ∃ b, e = .returned (.slice (some ⟨b, 0, none⟩) l.length l.length) ∧ RdA w' (some ⟨b, 0, none⟩) l ∧ Below w.heap.size w w' ∧ Below w0.heap.size w0 w' := by
  refine (toActS A l c w (hr.on hb) hl).mono ?_
  rintro e w' ⟨b, h1, h2, h3⟩
  exact ⟨b, h1, h2, h3, hb.trans (h3.mono hb.size)⟩
set_option maxHeartbeats 1000000 in
theorem scrLaw (A : Option Addr) (l : List ActR) (c : Nat) (w : World) (hr : RdA w A l) (ho : ∀ x ∈ l, x.ok) (hl : l.length * 32 ≤ 140737488355328) (hP : Pow w) :
    Calls Tryd.prog 5 #[.slice A l.length c] w fun e w' => e = .returned (.bool true) ∧ Below w.heap.size w w' := by
  go_enter Tryd.func5, Tryd.ntmps5
  by_cases hn : 1048576 < l.length
  · go_wp2_with (go_at_call 12; refine (szMany _ _ _ _ (by omega) hn).mono ?_; rintro e w1 ⟨rfl, rfl⟩)
    go_ret
    exact ⟨rfl, Below.refl _ _⟩
  have hd : decide ((1048576 - (l.length : Int)) < 0) = false := decide_eq_false (by omega)
  have hsz : l.length ≤ 1048576 := by omega
  clear hn
  cases hok : scrOk l
  all_goals
    go_wp2_with (first
      | (go_at_call 12; refine (szFew _ _ _ _ hsz).mono ?_; rintro e w1 ⟨rfl, rfl⟩)
      | (go_at_call 14; refine (toActS' A l c _ w hr (Below.refl _ _) hl).mono ?_; rintro e w1 ⟨b1, rfl, hr1, _, hb1⟩)
      | (go_at_call 13; refine (specScript _ l _ hr1 ho).mono ?_; rintro e w2 ⟨rfl, hs2⟩; have hb2 := hb1.trans (hs2.mono hb1.size))
      | (go_at_call 14; refine (toActS' A l c _ w hr hb2 hl).mono ?_; rintro e w3 ⟨b3, rfl, hr3, _, hb3⟩)
      | (go_at_call 15; refine (implScript _ l _ w hr3 ho hP hb3).mono ?_; rintro e w4 ⟨rfl, hs4⟩; have hb4 := hb3.trans (hs4.mono hb3.size); have hr4 := hr3.on hs4)
      | (go_at_call 14; refine (toActS' A l c _ w hr hb4 hl).mono ?_; rintro e w5 ⟨b5, rfl, hr5, hs5, hb5⟩)
      | (go_at_call 16; refine (eqActS _ _ l _ _ _ (hr4.on hs5) hr5 hl).mono ?_; rintro e w6 ⟨rfl, hs6⟩; have hb6 := hb5.trans (hs6.mono hb5.size)))
    go_ret
    exact ⟨rfl, hb6⟩
end Go.Proofs.YthdiilcpelioaaaDoor
