/- Sums of slices of numbers; beds and masses within their bounds. Condition: as many elements as memory takes. -/
import Derived.Test.YthdiilcpelioaaaBal
import Derived.Test.YthdiilcpelioaaaDec
set_option linter.unusedVariables false
set_option linter.unusedSimpArgs false
namespace Go.Proofs.Ythdiilcpelioaaa
open Go.RowKit
def sumW (l : List Int) : Int := l.foldl (fun a x => wrap64 (a + x)) 0
theorem sumW_snoc (l : List Int) (k : Nat) (h : k < l.length) : sumW (l.take (k + 1)) = wrap64 (sumW (l.take k) + l[k]) := by
  rw [List.take_succ_eq_append_getElem h, sumW, List.foldl_append]; rfl
theorem implSum (A : Option Addr) (l : List Int) (c : Nat) (w : World) (hr : RdI w A l) (hl : l.length ≤ 1000000000000000) :
    Calls Try.prog 75 #[.slice A l.length c] w fun e w' => e = .returned (.int .i64 (sumW l)) ∧ w' = w := by
  go_enter Try.func75, Try.ntmps75
  go_wp2
  go_loop [3, 8] (fun a i => ∃ k : Nat, k ≤ l.length ∧ i = .int .i64 k ∧ a = .int .i64 (sumW (l.take k))) (fun _ i => l.length - (intOf i).toNat)
  case atStart => exact ⟨0, Nat.zero_le _, rfl, rfl⟩
  case round =>
    obtain ⟨k, hk, rfl, rfl⟩ := hrel
    by_cases hlt : k < l.length
    · obtain ⟨b, o, rfl, hab, c0⟩ := hr k hlt
      have hs := Lib.hid (sumW_snoc l k hlt)
      go_wp2
      go_round
      case rel => exact ⟨k + 1, by omega, by go_num, by rw [hs.out]⟩
      case measure => simp [intOf]; omega
    · have hkl : k = l.length := by omega
      go_wp2
      go_ret
      exact ⟨rfl, rfl⟩
theorem specSum (A : Option Addr) (l : List Int) (c : Nat) (w : World) (hr : RdI w A l) (hl : l.length ≤ 1000000000000000) :
    Calls Try.prog 88 #[.slice A l.length c] w fun e w' => e = .returned (.int .i64 (sumW l)) ∧ w' = w := by
  go_enter Try.func88, Try.ntmps88
  go_wp2
  go_loop [3, 4] (fun a i => ∃ k : Nat, k ≤ l.length ∧ i = .int .i64 k ∧ a = .int .i64 (sumW (l.take k))) (fun _ i => l.length - (intOf i).toNat)
  case atStart => exact ⟨0, Nat.zero_le _, rfl, rfl⟩
  case round =>
    obtain ⟨k, hk, rfl, rfl⟩ := hrel
    by_cases hlt : k < l.length
    · obtain ⟨b, o, rfl, hab, c0⟩ := hr k hlt
      have hs := Lib.hid (sumW_snoc l k hlt)
      go_wp2
      go_round
      case rel => exact ⟨k + 1, by omega, by go_num, by rw [hs.out]⟩
      case measure => simp [intOf]; omega
    · have hkl : k = l.length := by omega
      go_wp2
      go_ret
      exact ⟨rfl, rfl⟩
theorem isBed (n : Int) (v : Bool) (w : World) (h : inR n 0 1000000 = v) :
    Calls Try.prog 74 #[.int .i64 n] w fun e w' => e = .returned (.bool v) ∧ w' = w := by
  go_enter Try.func74, Try.ntmps74
  go_wp2_with (go_at_call 31; refine (within _ _ _ _ _ h).mono ?_; rintro e w1 ⟨rfl, rfl⟩)
  go_ret
  exact ⟨by simp, rfl⟩
theorem notBed (n : Int) (v : Bool) (w : World) (h : inR n 0 1000000 = v) :
    Calls Try.prog 73 #[.int .i64 n] w fun e w' => e = .returned (.bool (!v)) ∧ w' = w := by
  go_enter Try.func73, Try.ntmps73
  go_wp2_with (go_at_call 74; refine (isBed _ _ _ h).mono ?_; rintro e w1 ⟨rfl, rfl⟩)
  go_ret
  exact ⟨by simp, rfl⟩
def bedOk (l : List Int) : Bool := l.all fun b => inR b 0 1000000
theorem bedOk_no {l : List Int} {k : Nat} (hk : k < l.length) (h : inR l[k] 0 1000000 = false) : bedOk l = false := by
  unfold bedOk
  rw [List.all_eq_false]
  exact ⟨l[k], List.getElem_mem hk, by simp [h]⟩
theorem bedOk_yes {l : List Int} (h : ∀ i (hi : i < l.length), inR l[i] 0 1000000 = true) : bedOk l = true := by
  unfold bedOk
  rw [List.all_eq_true]
  intro x hx
  obtain ⟨i, hi, rfl⟩ := List.getElem_of_mem hx
  exact h i hi
def SomeAt (n : Nat) (v : Bool) (w : World) (e : Ending) (w' : World) : Prop := ∃ i : Int, e = .returned (.int .i64 i) ∧ (v = true ∧ i = -1 ∨ v = false ∧ 0 ≤ i ∧ i < n) ∧ w' = w
theorem someAt_false {v : Bool} {n : Nat} {i : Int} (h : v = false) (hi : v = true ∧ i = -1 ∨ v = false ∧ 0 ≤ i ∧ i < n) : 0 ≤ i ∧ i < n := by
  rcases hi with ⟨h3, _⟩ | ⟨_, h3⟩
  · rw [h] at h3; cases h3
  · exact h3
theorem someAt_true {v : Bool} {n : Nat} {i : Int} (h : v = true) (hi : v = true ∧ i = -1 ∨ v = false ∧ 0 ≤ i ∧ i < n) : i = -1 := by
  rcases hi with ⟨_, h3⟩ | ⟨h3, _⟩
  · exact h3
  · rw [h] at h3; cases h3
theorem indexBed (A : Option Addr) (l : List Int) (c : Nat) (w : World) (hr : RdI w A l) (hl : l.length ≤ 1000000000000000) :
    Calls Try.prog 94 #[.slice A l.length c, .func (.func 73) #[] #[]] w (SomeAt l.length (bedOk l) w) := by
  go_enter Try.func94, Try.ntmps94
  go_wp2
  go_loop [8] (fun i => ∃ k : Nat, k ≤ l.length ∧ i = .int .i64 k ∧ Hid (∀ i (hi : i < l.length), i < k → inR l[i] 0 1000000 = true)) (fun i => l.length - (intOf i).toNat)
  case atStart => exact ⟨0, Nat.zero_le _, rfl, Lib.hid (fun i h h' => by omega)⟩
  case round =>
    obtain ⟨k, hk, rfl, hall⟩ := hrel
    by_cases hlt : k < l.length
    · obtain ⟨b, o, rfl, hab, c0⟩ := hr k hlt
      cases hb : inR l[k] 0 1000000
      · have hres := Lib.hid (bedOk_no hlt hb)
        go_wp2_with (go_at_call 73; refine (notBed _ _ _ hb).mono ?_; rintro e w1 ⟨rfl, rfl⟩)
        go_ret
        exact ⟨_, rfl, .inr ⟨hres.out, by omega, by omega⟩, rfl⟩
      · go_wp2_with (go_at_call 73; refine (notBed _ _ _ hb).mono ?_; rintro e w1 ⟨rfl, rfl⟩)
        go_round
        case rel =>
          refine ⟨k + 1, by omega, by go_num, Lib.hid (fun i hi h' => ?_)⟩
          by_cases hik : i < k
          · exact hall.out i hi hik
          · obtain rfl : i = k := by omega
            exact hb
        case measure => simp [intOf]; omega
    · have hres := Lib.hid (bedOk_yes (l := l) (fun i hi => hall.out i hi (by omega)))
      go_wp2
      go_ret
      exact ⟨_, rfl, .inl ⟨hres.out, rfl⟩, rfl⟩
theorem containsBad (A : Option Addr) (l : List Int) (c : Nat) (v : Bool) (w : World) (hr : RdI w A l) (hl : l.length ≤ 1000000000000000) (h : bedOk l = v) :
    Calls Try.prog 72 #[.slice A l.length c, .func (.func 73) #[] #[]] w fun e w' => e = .returned (.bool (!v)) ∧ w' = w := by
  go_enter Try.func72, Try.ntmps72
  cases v
  · go_wp2_with (go_at_call 94; refine (indexBed A l c _ hr hl).mono ?_; rintro e w1 ⟨i, rfl, hi, rfl⟩; obtain ⟨h1, h2⟩ := someAt_false h hi)
    go_ret
    exact ⟨by first | (simp; done) | (simp; omega), rfl⟩
  · go_wp2_with (go_at_call 94; refine (indexBed A l c _ hr hl).mono ?_; rintro e w1 ⟨i, rfl, hi, rfl⟩; obtain rfl := someAt_true h hi)
    go_ret
    exact ⟨by simp, rfl⟩
end Go.Proofs.Ythdiilcpelioaaa
