/- What the laws count of states. Condition: as many elements as memory takes. -/
import Derived.Test.YthdiilcpelioaaaSz
import Derived.Test.YthdiilcpelioaaaAsk
set_option linter.unusedVariables false
set_option linter.unusedSimpArgs false
namespace Go.Proofs.Ythdiilcpelioaaa
open Go.RowKit
def sz2 (left : Int) (n m : Nat) : Int := if sz1 left n < 0 then -1 else sz1 (sz1 left n) m
def szSt (left : Int) (s : StateR) : Int := if sz2 left s.leaves.length s.mass.length < 0 then -1 else sz2 (sz2 left s.leaves.length s.mass.length) s.tracer.length s.bed.length
theorem sz2_in {left : Int} {n m : Nat} (h0 : 0 ≤ left) : sz2 left n m = -1 ∨ (0 ≤ sz2 left n m ∧ sz2 left n m ≤ left ∧ (n : Int) ≤ left ∧ (m : Int) ≤ left) := by
  unfold sz2
  have h1 := sz1_in (left := left) (n := n)
  have h2 := sz1_in (left := sz1 left n) (n := m)
  split <;> omega
theorem szSt_in (left : Int) (s : StateR) (h0 : 0 ≤ left) : szSt left s < 0 ∨ (0 ≤ szSt left s ∧ szSt left s ≤ left ∧ ((s.leaves.length : Int) ≤ left ∧ (s.mass.length : Int) ≤ left ∧ (s.tracer.length : Int) ≤ left ∧ (s.bed.length : Int) ≤ left)) := by
  unfold szSt
  have h1 := sz2_in (left := left) (n := s.leaves.length) (m := s.mass.length) h0
  by_cases h : sz2 left s.leaves.length s.mass.length < 0
  · rw [if_pos h]; exact .inl (by omega)
  · rw [if_neg h]
    have h2 := sz2_in (left := sz2 left s.leaves.length s.mass.length) (n := s.tracer.length) (m := s.bed.length) (by omega)
    omega
set_option maxHeartbeats 2000000 in
theorem szState (s : StateR) (p : At4) (left r : Int) (w : World) (hf : s.fits) (hl : left ≤ 1048576) (h0 : 0 ≤ left) (hr : szSt left s = r) :
    Calls Try.prog 44 #[s.v p, .int .i64 left] w fun e w' => e = .returned (.int .i64 r) ∧ Below w.heap.size w w' := by
  obtain ⟨f1, f2, f3, f4⟩ := hf
  unfold StateR.v StateR.cs
  unfold szSt sz2 at hr
  generalize ha : sz1 left s.leaves.length = a at hr
  generalize hb : sz1 a s.mass.length = b at hr
  have ia := sz1_in (left := left) (n := s.leaves.length)
  have ib := sz1_in (left := a) (n := s.mass.length)
  rw [ha] at ia
  rw [hb] at ib
  go_enter Try.func44, Try.ntmps44
  have hb0 := below_new w (.cells #[.int .i64 s.roots, .slice p.A1 s.leaves.length p.c1, .slice p.A2 s.mass.length p.c2, .slice p.A3 s.tracer.length p.c3, .slice p.A4 s.bed.length p.c4] 85)
  have hK := Blk.new w 85 [.int .i64 s.roots, .slice p.A1 s.leaves.length p.c1, .slice p.A2 s.mass.length p.c2, .slice p.A3 s.tracer.length p.c3, .slice p.A4 s.bed.length p.c4]
  have HA := Lib.hid ha
  have HB := Lib.hid hb
  rcases ia with i1 | ⟨i1, i2, _⟩
  · rw [if_pos (show (if a < 0 then (-1 : Int) else b) < 0 by rw [if_pos (by omega)]; omega)] at hr
    have hd : decide (a < 0) = true := decide_eq_true (by omega)
    subst hr
    clear ha hb ib i1
    go_wp2_with (go_at_call 57; refine (szMesh _ _ _ _ _ _ _ f1 hl h0 HA.out).mono ?_; rintro e w1 ⟨rfl, hb1⟩)
    go_ret
    exact ⟨rfl, hb0.trans (hb1.mono hb0.size)⟩
  have hda : decide (a < 0) = false := decide_eq_false (by omega)
  rw [if_neg (show ¬ a < 0 by omega)] at hr
  rcases ib with j1 | ⟨j1, j2, _⟩
  · rw [if_pos (by omega)] at hr
    have hd : decide (b < 0) = true := decide_eq_true (by omega)
    subst hr
    clear ha hb j1
    go_wp2_with (first
      | (go_at_call 57; refine (szMesh _ _ _ _ _ _ _ f1 hl h0 HA.out).mono ?_; rintro e w1 ⟨rfl, hb1⟩; have kk := hK.on hb1; have n2 := kk.cell (i := 2) rfl; have hw1 := Lib.hid (hb0.trans (hb1.mono hb0.size)))
      | (go_at_call 58; refine (szIntS _ _ _ _ _ _ f2 (by omega) i1 HB.out).mono ?_; rintro e w2 ⟨rfl, rfl⟩))
    go_ret
    exact ⟨rfl, hw1.out⟩
  have hdb : decide (b < 0) = false := decide_eq_false (by omega)
  rw [if_neg (show ¬ b < 0 by omega)] at hr
  generalize hc : sz1 b s.tracer.length = c at hr
  generalize hd : sz1 c s.bed.length = d at hr
  have ic := sz1_in (left := b) (n := s.tracer.length)
  have id := sz1_in (left := c) (n := s.bed.length)
  rw [hc] at ic
  rw [hd] at id
  have HC := Lib.hid hc
  have HD := Lib.hid hd
  have hbl : b ≤ 1048576 := by omega
  rcases ic with k1 | ⟨k1, k2, _⟩
  · rw [if_pos (by omega)] at hr
    have hdc : decide (c < 0) = true := decide_eq_true (by omega)
    subst hr
    clear ha hb hc hd id k1
    go_wp2_with (first
      | (go_at_call 57; refine (szMesh _ _ _ _ _ _ _ f1 hl h0 HA.out).mono ?_; rintro e w1 ⟨rfl, hb1⟩; have kk := hK.on hb1; have n2 := kk.cell (i := 2) rfl; have n3 := kk.cell (i := 3) rfl; have hw1 := Lib.hid (hb0.trans (hb1.mono hb0.size)))
      | (go_at_call 58; with_reducible refine (szIntS _ _ _ _ _ _ f2 (by omega) i1 HB.out).mono ?_; rintro e w2 ⟨rfl, rfl⟩)
      | (go_at_call 58; with_reducible refine (szIntS _ _ _ _ _ _ f3 hbl j1 HC.out).mono ?_; rintro e w2 ⟨rfl, rfl⟩))
    go_ret
    exact ⟨rfl, hw1.out⟩
  have hdc : decide (c < 0) = false := decide_eq_false (by omega)
  rw [if_neg (show ¬ c < 0 by omega)] at hr
  have hcl : c ≤ 1048576 := by omega
  subst hr
  rcases id with k3 | ⟨k3, k4, _⟩
  · have hdd : decide (d < 0) = true := decide_eq_true (by omega)
    clear ha hb hc hd
    subst k3
    go_wp2_with (first
      | (go_at_call 57; refine (szMesh _ _ _ _ _ _ _ f1 hl h0 HA.out).mono ?_; rintro e w1 ⟨rfl, hb1⟩; have kk := hK.on hb1; have n2 := kk.cell (i := 2) rfl; have n3 := kk.cell (i := 3) rfl; have n4 := kk.cell (i := 4) rfl; have hw1 := Lib.hid (hb0.trans (hb1.mono hb0.size)))
      | (go_at_call 58; with_reducible refine (szIntS _ _ _ _ _ _ f2 (by omega) i1 HB.out).mono ?_; rintro e w2 ⟨rfl, rfl⟩)
      | (go_at_call 58; with_reducible refine (szIntS _ _ _ _ _ _ f3 hbl j1 HC.out).mono ?_; rintro e w2 ⟨rfl, rfl⟩)
      | (go_at_call 58; with_reducible refine (szIntS _ _ _ _ _ _ f4 hcl k1 HD.out).mono ?_; rintro e w2 ⟨rfl, rfl⟩))
    go_ret
    exact ⟨rfl, hw1.out⟩
  · have hdd : decide (d < 0) = false := decide_eq_false (by omega)
    clear ha hb hc hd
    go_wp2_with (first
      | (go_at_call 57; refine (szMesh _ _ _ _ _ _ _ f1 hl h0 HA.out).mono ?_; rintro e w1 ⟨rfl, hb1⟩; have kk := hK.on hb1; have n2 := kk.cell (i := 2) rfl; have n3 := kk.cell (i := 3) rfl; have n4 := kk.cell (i := 4) rfl; have hw1 := Lib.hid (hb0.trans (hb1.mono hb0.size)))
      | (go_at_call 58; with_reducible refine (szIntS _ _ _ _ _ _ f2 (by omega) i1 HB.out).mono ?_; rintro e w2 ⟨rfl, rfl⟩)
      | (go_at_call 58; with_reducible refine (szIntS _ _ _ _ _ _ f3 hbl j1 HC.out).mono ?_; rintro e w2 ⟨rfl, rfl⟩)
      | (go_at_call 58; with_reducible refine (szIntS _ _ _ _ _ _ f4 hcl k1 HD.out).mono ?_; rintro e w2 ⟨rfl, rfl⟩))
    go_ret
    exact ⟨rfl, hw1.out⟩
def szSs (left : Int) (l : List StateR) : Int := if sz1 left l.length < 0 then -1 else szAll szSt (sz1 left l.length) l
set_option maxHeartbeats 2000000 in
theorem szStateS (A : Option Addr) (l : List StateR) (c : Nat) (left r : Int) (w : World) (hA : RdSS w A l) (hn : l.length ≤ 1000000000000000) (hf : fitsAll l) (hl : left ≤ 1048576) (h0 : 0 ≤ left) (hr : szSs left l = r) :
    Calls Try.prog 19 #[.slice A l.length c, .int .i64 left] w fun e w' => e = .returned (.int .i64 r) ∧ Below w.heap.size w w' := by
  unfold szSs at hr
  have hi : IntKind.i64.wrap (left - (l.length : Int)) = left - (l.length : Int) := IntWalk.i64_in _ (by omega)
  go_enter Try.func19, Try.ntmps19
  cases hd : decide (left - (l.length : Int) < 0)
  · rw [sz1_yes hd] at hr
    have hd' : 0 ≤ left - (l.length : Int) := by simpa using hd
    rw [if_neg (by omega)] at hr
    have hR := Lib.hid hr
    clear hr
    go_wp2
    go_loopw [1, 5] (fun a i wr => ∃ (k : Nat) (s : Int), k ≤ l.length ∧ i = .int .i64 k ∧ a = .int .i64 s ∧ (0 ≤ s ∧ s ≤ left - (l.length : Int)) ∧ Hid (szAll szSt (left - (l.length : Int)) (l.take k) = s) ∧ Below w.heap.size w wr) (fun _ i _ => l.length - (intOf i).toNat)
    case atStart => exact ⟨0, _, Nat.zero_le _, rfl, rfl, ⟨hd', Int.le_refl _⟩, Lib.hid rfl, Below.refl _ _⟩
    case round =>
      obtain ⟨k, s, hk, rfl, rfl, ⟨hs0, hsm⟩, hS, hbr⟩ := hrel
      by_cases hlt : k < l.length
      · obtain ⟨b, o, p, rfl, hab, x0, x1, x2, x3, x4, x5⟩ := (hA.on hbr) k hlt
        have hfk := hf l[k] (List.getElem_mem hlt)
        have hT : szAll szSt (left - (l.length : Int)) (l.take (k + 1)) = if szSt s l[k] < 0 then -1 else szSt s l[k] := by
          rw [List.take_succ_eq_append_getElem hlt, szAll_snoc, hS.out, if_neg (by omega)]
        have hcall := fun (w : World) (h1 : s ≤ 1048576) => szState l[k] p s (szSt s l[k]) w hfk h1 hs0 rfl
        unfold StateR.v StateR.cs at hcall
        rcases szSt_in s l[k] hs0 with h1 | ⟨h1, h2, _⟩
        · have hres : szAll szSt (left - (l.length : Int)) l = -1 := by
            rw [if_pos h1] at hT
            have h3 := szAll_stop szSt (m := l.drop (k + 1)) hd' (l := l.take (k + 1)) (by rw [hT]; omega)
            rwa [List.take_append_drop] at h3
          have hr' := hR.out
          rw [hres] at hr'
          have hd2 : decide (szSt s l[k] < 0) = true := by simpa using h1
          have hs1 : s ≤ 1048576 := by omega
          clear hT hres
          subst hr'
          go_wp2_with (go_at_call 44; refine (hcall _ hs1).mono ?_; rintro e w1 ⟨rfl, hb1⟩)
          go_ret
          exact ⟨rfl, hbr.trans (hb1.mono hbr.size)⟩
        · rw [if_neg (by omega)] at hT
          have hT' := Lib.hid hT
          have hd2 : decide (szSt s l[k] < 0) = false := by simpa using h1
          have hs1 : s ≤ 1048576 := by omega
          have hm2 : szSt s l[k] ≤ left - (l.length : Int) := by omega
          clear hT
          go_wp2_with (go_at_call 44; refine (hcall _ hs1).mono ?_; rintro e w1 ⟨rfl, hb1⟩)
          go_roundw
          case rel => exact ⟨k + 1, _, by omega, by go_num, rfl, ⟨h1, hm2⟩, hT', hbr.trans (hb1.mono hbr.size)⟩
          case measure => simp [intOf]; omega
      · have hkl : k = l.length := by omega
        have h3 := hS.out
        rw [hkl, List.take_length, hR.out] at h3
        have hrs : r = s := h3
        clear h3
        subst hrs
        go_wp2
        go_ret
        exact ⟨rfl, hbr⟩
  · rw [sz1_no hd, if_pos (by omega)] at hr
    subst hr
    go_wp2
    go_ret
    exact ⟨rfl, Below.refl _ _⟩
/-- What a count says of the lengths. -/
theorem szSs_small {left : Int} {l : List StateR} (h0 : 0 ≤ left) (h : 0 ≤ szSs left l) : (l.length : Int) ≤ left ∧ ∀ s ∈ l, (s.leaves.length : Int) ≤ left ∧ (s.mass.length : Int) ≤ left ∧ (s.tracer.length : Int) ≤ left ∧ (s.bed.length : Int) ≤ left := by
  unfold szSs at h
  have h1 := sz1_in (left := left) (n := l.length)
  by_cases h2 : sz1 left l.length < 0
  · rw [if_pos h2] at h; omega
  · rw [if_neg h2] at h
    have h3 := (szAll_le (B := fun left s => (s.leaves.length : Int) ≤ left ∧ (s.mass.length : Int) ≤ left ∧ (s.tracer.length : Int) ≤ left ∧ (s.bed.length : Int) ≤ left) szSt_in (fun a b x hab hb => by omega) (l := l) (left := sz1 left l.length) (by omega) h).2
    exact ⟨by omega, fun s hs => by have := h3 s hs; omega⟩
theorem szSs_in (left : Int) (l : List StateR) (h0 : 0 ≤ left) : szSs left l = -1 ∨ (0 ≤ szSs left l ∧ szSs left l ≤ left) := by
  unfold szSs
  have h1 := sz1_in (left := left) (n := l.length)
  by_cases h : sz1 left l.length < 0
  · rw [if_pos h]; exact .inl rfl
  · rw [if_neg h]
    by_cases h2 : szAll szSt (sz1 left l.length) l < 0
    · have := szAll_stop szSt (m := []) (show 0 ≤ sz1 left l.length by omega) h2
      rw [List.append_nil] at this
      exact .inl this
    · have := (szAll_le (B := fun _ _ => True) (fun left s h => (szSt_in left s h).imp id (fun h => ⟨h.1, h.2.1, trivial⟩)) (fun a b x h hb => trivial) (l := l) (left := sz1 left l.length) (by omega) (by omega)).1
      exact .inr ⟨by omega, by omega⟩
end Go.Proofs.Ythdiilcpelioaaa
