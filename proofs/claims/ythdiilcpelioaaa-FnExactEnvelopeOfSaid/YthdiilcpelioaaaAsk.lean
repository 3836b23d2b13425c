/- Lists of states: are all valid and on one mesh? By the reference and by the program. Condition: as many elements as memory takes. -/
import Derived.Test.YthdiilcpelioaaaStS
import Derived.Test.YthdiilcpelioaaaSame
import Derived.Lib.QuietBelow
set_option linter.unusedVariables false
set_option linter.unusedSimpArgs false
namespace Go.Proofs.Ythdiilcpelioaaa
open Go.RowKit
/-- A slice of states that reads as l. -/
def RdSS (w : World) (A : Option Addr) (l : List StateR) : Prop := ∀ (i : Nat) (h : i < l.length), ∃ b o p, A = some ⟨b, o, none⟩ ∧ b < w.heap.size ∧
  w.cell? ⟨b, o + i * 5, none⟩ = some (.int .i64 l[i].roots) ∧ w.cell? ⟨b, o + i * 5 + 1, none⟩ = some (.slice p.A1 l[i].leaves.length p.c1) ∧ w.cell? ⟨b, o + i * 5 + 2, none⟩ = some (.slice p.A2 l[i].mass.length p.c2) ∧
  w.cell? ⟨b, o + i * 5 + 3, none⟩ = some (.slice p.A3 l[i].tracer.length p.c3) ∧ w.cell? ⟨b, o + i * 5 + 4, none⟩ = some (.slice p.A4 l[i].bed.length p.c4) ∧ RdS w l[i] p
theorem RdSS.on {w w' : World} {A : Option Addr} {l : List StateR} (h : RdSS w A l) (hb : Below w.heap.size w w') : RdSS w' A l := fun i hi => by
  obtain ⟨b, o, p, e, hlt, h0, h1, h2, h3, h4, h5⟩ := h i hi
  exact ⟨b, o, p, e, Nat.lt_of_lt_of_le hlt hb.size, cell_on hb h0, cell_on hb h1, cell_on hb h2, cell_on hb h3, cell_on hb h4, h5.on hb⟩
def stAt (l : List StateR) (i : Nat) : StateR := l.getD i default
theorem stAt_at {l : List StateR} {i : Nat} (h : i < l.length) : stAt l i = l[i] := by
  rw [stAt, List.getD_eq_getElem?_getD, List.getElem?_eq_getElem h]; rfl
def alike (s t : StateR) : Bool := s.fine && sameMesh s.roots s.leaves t.roots t.leaves
def askOk (l : List StateR) : Bool := inR l.length 1 100 && (List.range l.length).all fun i => alike (stAt l i) (stAt l 0)
theorem askOk_no {l : List StateR} {k : Nat} (hk : k < l.length) (h : alike l[k] (l[0]'(by omega)) = false) : askOk l = false := by
  unfold askOk
  rw [Bool.and_eq_false_iff]
  right
  rw [List.all_eq_false]
  exact ⟨k, List.mem_range.2 hk, by rw [stAt_at hk, stAt_at (by omega), h]; simp⟩
theorem askOk_yes {l : List StateR} (hl : inR l.length 1 100 = true) (h : ∀ i (hi : i < l.length), alike l[i] (l[0]'(by omega)) = true) : askOk l = true := by
  unfold askOk
  rw [hl, Bool.true_and, List.all_eq_true]
  intro i hi
  have hi' := List.mem_range.1 hi
  rw [stAt_at hi', stAt_at (by omega)]
  exact h i hi'
theorem askOk_len {l : List StateR} (hl : inR l.length 1 100 = false) : askOk l = false := by
  unfold askOk
  rw [hl, Bool.false_and]
def fitsAll (l : List StateR) : Prop := ∀ s ∈ l, s.fits
set_option maxHeartbeats 4000000 in
theorem specAsk (A : Option Addr) (l : List StateR) (c : Nat) (v : Bool) (w : World) (hr : RdSS w A l) (hf : fitsAll l) (hl : l.length ≤ 1000000000000) (h : askOk l = v) :
    Calls Try.prog 45 #[.slice A l.length c] w fun e w' => e = .returned (.bool v) ∧ Below w.heap.size w w' := by
  subst h
  go_enter Try.func45, Try.ntmps45
  cases hlen : inR l.length 1 100
  · have hres := Lib.hid (askOk_len hlen)
    go_wp2_with (go_at_call 66; refine (l01In _ _ _ _ _ hlen).mono ?_; rintro e w2 ⟨rfl, h2⟩; obtain rfl := h2.symm)
    go_ret
    exact ⟨by rw [hres.out]; rfl, Below.refl _ _⟩
  have hL := Lib.hid hlen
  have hb := inR_true.1 hlen
  have hF := Lib.hid hf
  clear hf
  go_wp2_with (go_at_call 66; refine (l01In _ _ _ _ _ hlen).mono ?_; rintro e w2 ⟨rfl, h2⟩; obtain rfl := h2.symm)
  clear hlen
  go_loopw [3] (fun i wr => ∃ k : Nat, k ≤ l.length ∧ i = .int .i64 k ∧ Hid (∀ i (hi : i < l.length), i < k → alike l[i] (l[0]'(by omega)) = true) ∧ Below w.heap.size w wr) (fun i _ => l.length - (intOf i).toNat)
  case atStart => exact ⟨0, Nat.zero_le _, rfl, Lib.hid (fun i h h' => by omega), Below.refl _ _⟩
  case round =>
    obtain ⟨k, hk, rfl, hall, hbr⟩ := hrel
    by_cases hlt : k < l.length
    · have hlt0 : 0 < l.length := by omega
      obtain ⟨b, o, p, rfl, hab, x0, x1, x2, x3, x4, x5⟩ := (hr.on hbr) k hlt
      obtain ⟨b', o', p', heq, hab', y0, y1, y2, y3, y4, y5⟩ := (hr.on hbr) 0 hlt0
      simp only [Option.some.injEq, Addr.mk.injEq, and_true] at heq
      obtain ⟨rfl, rfl⟩ := heq
      simp only [Nat.zero_mul, Nat.add_zero] at y0 y1 y2 y3 y4
      have s4 : (0 : Int) ≤ (k : Int) := by omega
      have s5 : (0 : Int) < (l.length : Int) := by omega
      have s6 : (k : Int) < (l.length : Int) := by omega
      have fk := hF.out l[k] (List.getElem_mem hlt)
      have f0 := hF.out l[0] (List.getElem_mem hlt0)
      have hno := Lib.hid (fun h => askOk_no (l := l) hlt h)
      have hyes := Lib.hid (fun (h : alike l[k] (l[0]'hlt0) = true) => fun i (hi : i < l.length) (h' : i < k + 1) => show alike l[i] (l[0]'(by omega)) = true by
        by_cases hik : i < k
        · exact hall.out i hi hik
        · obtain rfl : i = k := by omega
          exact h)
      have X0 := cell_regrown x0
      have X1 := cell_regrown x1
      have X2 := cell_regrown x2
      have X3 := cell_regrown x3
      have X4 := cell_regrown x4
      have Y0 := cell_regrown y0
      have Y1 := cell_regrown y1
      have X5 := Lib.hid x5
      have Y5 := Lib.hid y5
      clear x0 x1 x2 x3 x4 y0 y1 y2 y3 y4 x5 y5
      have hst := fun (w : World) (h1 : RdS w l[k] p) (h2 : l[k].fits) => specStateOk l[k] p l[k].fine w h1 h2 rfl
      have hsm := fun (w : World) (c d : Nat) (h1 : RdId w p.A1 l[k].leaves) (h2 : RdId w p'.A1 (l[0]'hlt0).leaves) (h3 : l[k].leaves.length ≤ 1000000000000000) (h4 : (l[0]'hlt0).leaves.length ≤ 1000000000000000) => specSameMesh l[k].roots (l[0]'hlt0).roots p.A1 p'.A1 l[k].leaves (l[0]'hlt0).leaves c d (sameMesh l[k].roots l[k].leaves (l[0]'hlt0).roots (l[0]'hlt0).leaves) w h1 h2 h3 h4 rfl
      unfold StateR.v StateR.cs at hst
      have hal := Lib.hid (show alike l[k] (l[0]'hlt0) = (l[k].fine && sameMesh l[k].roots l[k].leaves (l[0]'hlt0).roots (l[0]'hlt0).leaves) from rfl)
      cases hfine : l[k].fine
      · rw [hfine] at hst
        have hn := Lib.hid (hno.out (by rw [hal.out, hfine]; rfl))
        go_wp2_with fail
        refine wp_region_quiet_below (by kernel_rfl) (by kernel_rfl) ?_
        repeat (go_big_quiet_step ((go_at_call 67; exact Calls.regrown_of (hst _ (X5.out.on (below_regrown _ _ _)) fk))))
        refine wpQuiet_nil ?_
        intro _ hw'
        obtain ⟨⟨dq, osq⟩, hw''⟩ := hw'
        subst hw''
        go_wp2
        go_ret
        exact ⟨by rw [hn.out]; rfl, hbr.trans ((below_regrown wr dq osq).mono hbr.size)⟩
      · rw [hfine] at hst
        cases hsame : sameMesh l[k].roots l[k].leaves (l[0]'hlt0).roots (l[0]'hlt0).leaves
        · rw [hsame] at hsm
          have hn := Lib.hid (hno.out (by rw [hal.out, hfine, hsame]; rfl))
          go_wp2_with fail
          refine wp_region_quiet_below (by kernel_rfl) (by kernel_rfl) ?_
          repeat (go_big_quiet_step (first | (go_at_call 67; exact Calls.regrown_of (hst _ (X5.out.on (below_regrown _ _ _)) fk)) | (go_at_call 68; exact Calls.regrown_of (hsm _ _ _ (X5.out.on (below_regrown _ _ _)).h1 (Y5.out.on (below_regrown _ _ _)).h1 fk.f1 f0.f1))))
          refine wpQuiet_nil ?_
          intro _ hw'
          obtain ⟨⟨dq, osq⟩, hw''⟩ := hw'
          subst hw''
          go_wp2
          go_ret
          exact ⟨by rw [hn.out]; rfl, hbr.trans ((below_regrown wr dq osq).mono hbr.size)⟩
        · rw [hsame] at hsm
          have hy := Lib.hid (hyes.out (by rw [hal.out, hfine, hsame]; rfl))
          go_wp2_with fail
          refine wp_region_quiet_below (by kernel_rfl) (by kernel_rfl) ?_
          repeat (go_big_quiet_step (first | (go_at_call 67; exact Calls.regrown_of (hst _ (X5.out.on (below_regrown _ _ _)) fk)) | (go_at_call 68; exact Calls.regrown_of (hsm _ _ _ (X5.out.on (below_regrown _ _ _)).h1 (Y5.out.on (below_regrown _ _ _)).h1 fk.f1 f0.f1))))
          refine wpQuiet_nil ?_
          intro _ hw'
          obtain ⟨⟨dq, osq⟩, hw''⟩ := hw'
          subst hw''
          go_wp2
          go_roundw
          case rel => exact ⟨k + 1, by omega, by go_num, hy, hbr.trans ((below_regrown wr dq osq).mono hbr.size)⟩
          case measure => simp [intOf]; omega
    · have hy := Lib.hid (askOk_yes hL.out (fun i hi => hall.out i hi (by omega)))
      go_wp2
      go_ret
      exact ⟨by rw [hy.out]; rfl, hbr⟩
end Go.Proofs.Ythdiilcpelioaaa
