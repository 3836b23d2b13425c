/- FnExactEnvelopeOf: it returns true. Condition: the argument's slices are no longer than memory takes. -/
import Derived.Test.YthdiilcpelioaaaMarkS
import Derived.Test.YthdiilcpelioaaaEnvS
set_option linter.unusedVariables false
set_option linter.unusedSimpArgs false
namespace Go.Proofs.Ythdiilcpelioaaa
open Go.RowKit
theorem Keeps.below {w w' : World} (hb : Below w.heap.size w w') : Keeps w w' := fun g n ⟨t, xs, h, hl⟩ => ⟨t, xs, h.on hb, hl⟩
theorem StShape.on {B E : Nat} {w w' : World} {g n : Nat} {css : List (List Value)} (h : StShape B E w g n css) (hb : Below w.heap.size w w') : StShape B E w' g n css :=
  ⟨h.1, fun c hc => (h.2.1 c hc).keep (Keeps.below hb), h.2.2.on hb⟩
theorem lightAll.fits {l : List StateR} (h : lightAll l) : fitsAll l := fun s hs => (h.2 s hs).fits
theorem lightAll.mass {l : List StateR} (h : lightAll l) : massFits l := fun s hs => (h.2 s hs).l2
set_option maxRecDepth 100000 in
set_option maxHeartbeats 4000000 in
theorem envLawShort (A : Option Addr) (l : List StateR) (c : Nat) (w : World) (hr : RdSS w A l) (hl : lightAll l) (hz : szSs 1048576 l = -1) :
    Calls Try.prog 5 #[.slice A l.length c] w fun e w' => e = .returned (.bool true) ∧ Below w.heap.size w w' := by
  have hn : l.length ≤ 1000000000000000 := by have := hl.1; omega
  have HL := Lib.hid hl
  have HZ := Lib.hid hz
  clear hl hz
  go_enter Try.func5, Try.ntmps5
  go_wp2_with (go_at_call 19; refine (szStateS A l c _ _ _ hr hn HL.out.fits (by omega) (by omega) HZ.out).mono ?_; rintro e w1 ⟨rfl, hb1⟩)
  go_ret
  exact ⟨rfl, hb1⟩
/-- What is asked of the list once it has been counted. -/
structure Counted (l : List StateR) : Prop where
  n : l.length ≤ 1048576
  s : ∀ s ∈ l, s.leaves.length ≤ 1048576 ∧ s.mass.length ≤ 1048576 ∧ s.tracer.length ≤ 1048576 ∧ s.bed.length ≤ 1048576
theorem counted_of {l : List StateR} (h : 0 ≤ szSs 1048576 l) : Counted l := by
  obtain ⟨h1, h2⟩ := szSs_small (by omega) h
  exact ⟨by omega, fun s hs => by have := h2 s hs; omega⟩
theorem env_len {l : List StateR} (h : askOk l = true) (h0 : 0 < l.length) : (envLow l).length = (l[0]'h0).mass.length ∧ (envHigh l).length = (l[0]'h0).mass.length := by
  have hlen : inR l.length 1 100 = true := by unfold askOk at h; simp only [Bool.and_eq_true] at h; exact h.1
  have hal : allAlike l h0 = true := by rw [← askOk_alike hlen h0]; exact h
  have hall : ∀ i (hi : i < l.length), alike l[i] (l[0]'h0) = true := fun i hi => List.all_eq_true.1 hal _ (List.getElem_mem hi)
  have hlens : ∀ i (hi : i < l.length), l[i].mass.length = (l[0]'h0).mass.length := fun i hi => alike_len (hall i hi) (alike_fine (hall 0 h0))
  exact ⟨by rw [← loK_all h0]; exact loK_len hlens h0 _ (Nat.le_refl _), by rw [← hiK_all h0]; exact hiK_len hlens h0 _ (Nat.le_refl _)⟩
theorem env_small {l : List StateR} (h : askOk l = true) (hc : Counted l) : (envLow l).length ≤ 1048576 ∧ (envHigh l).length ≤ 1048576 := by
  have hlen : inR l.length 1 100 = true := by unfold askOk at h; simp only [Bool.and_eq_true] at h; exact h.1
  have h0 : 0 < l.length := by have := inR_true.1 hlen; omega
  obtain ⟨h1, h2⟩ := env_len h h0
  have := (hc.s _ (List.getElem_mem h0)).2.1
  omega
theorem markNil (A : Option Addr) (c : Nat) (w : World) :
    Calls Try.prog 25 #[.slice A 0 c, .int .i64 1] w fun e w' => e = .returned (.int .i64 1) ∧ w' = w := by
  go_enter Try.func25, Try.ntmps25
  go_wp2
  go_loop [1, 5] (fun a i => a = .int .i64 1 ∧ i = .int .i64 0) (fun _ i => 0)
  case atStart => exact ⟨rfl, rfl⟩
  case round =>
    obtain ⟨rfl, rfl⟩ := hrel
    go_wp2
    go_ret
    exact ⟨rfl, rfl⟩
set_option maxRecDepth 100000 in
set_option maxHeartbeats 8000000 in
theorem envLawYes (A : Option Addr) (l : List StateR) (c : Nat) (w : World) (hr : RdSS w A l) (hl : lightAll l) (r : Int) (hz : szSs 1048576 l = r) (hr0 : 0 ≤ r) (hc : Counted l) (h : askOk l = true) :
    Calls Try.prog 5 #[.slice A l.length c] w fun e w' => e = .returned (.bool true) ∧ Below w.heap.size w w' := by
  have hn : l.length ≤ 1000000000000000 := by have := hl.1; omega
  have hn2 : l.length ≤ 1000000000000 := by have := hc.n; omega
  have hsm := env_small h hc
  have HL := Lib.hid hl
  have HZ := Lib.hid hz
  have HC := Lib.hid hc
  have HO := Lib.hid h
  have hd : decide (r < 0) = false := decide_eq_false (by omega)
  clear hl hz hc h
  obtain ⟨hs1, hs2⟩ := hsm
  go_enter Try.func5, Try.ntmps5
  go_wp2_with fail
  refine (szStateS A l c _ _ _ hr hn HL.out.fits (by omega) (by omega) HZ.out).mono ?_
  rintro e v1 ⟨rfl, hb1⟩
  go_wp2_with fail
  refine (toStateS A l c _ (hr.on hb1) HL.out).mono ?_
  rintro e v2 ⟨gA, rfl, hA, hb2'⟩
  have hb2 := hb1.trans (hb2'.mono hb1.size)
  go_wp2_with fail
  refine (specEnvYes _ l _ _ hA.rd HL.out.fits HL.out.mass hn2 HO.out).mono ?_
  rintro e v3 ⟨a1, ca1, S1, a2, ca2, S2, rfl, ha1, ha2, _, hA1, hA2, hb3'⟩
  have hb3 := hb2.trans (hb3'.mono hb2.size)
  go_wp2_with fail
  refine (toStateS A l c _ (hr.on hb3) HL.out).mono ?_
  rintro e v4 ⟨gX, rfl, hX, hb4'⟩
  have hb4 := hb3.trans (hb4'.mono hb3.size)
  obtain ⟨css, hsh⟩ := hX.shape HC.out.s
  have hXg := hX.1
  have hXl := hsh.2.2.lt
  go_wp2_with fail
  refine (implEnvYes _ l _ _ hX.rd HL.out.fits HL.out.mass hn2 HO.out).mono ?_
  rintro e v5 ⟨b1, cb1, T1, b2, cb2, T2, rfl, hb1', hb2'', hne, hB1, hB2, hb5'⟩
  have hb5 := hb4.trans (hb5'.mono hb4.size)
  have hA1l := hA1.lt
  have hA2l := hA2.lt
  have hA1' := (hA1.on hb4').on hb5'
  have hA2' := (hA2.on hb4').on hb5'
  go_wp2_with fail
  refine (eqIntS _ _ (envLow l) _ _ _ hB1.rdInts hA1'.rdInts (by omega)).mono ?_
  rintro e v6 ⟨rfl, hb6'⟩
  go_wp2_with fail
  refine (eqIntS _ _ (envHigh l) _ _ _ (hB2.on hb6').rdInts (hA2'.on hb6').rdInts (by omega)).mono ?_
  rintro e v7 ⟨rfl, hb7'⟩
  have s67 := hb6'.trans (hb7'.mono hb6'.size)
  have hb7 := hb5.trans (s67.mono hb5.size)
  go_wp2_with fail
  refine (toStateS A l c _ (hr.on hb7) HL.out).mono ?_
  rintro e v8 ⟨gC, rfl, hC, hb8'⟩
  have s58 := s67.trans (hb8'.mono s67.size)
  have s48 := hb5'.trans (s58.mono hb5'.size)
  go_wp2_with fail
  refine (eqStateS _ _ l _ _ _ ((hX.on s48).rd) hC.rd hn HL.out.fits).mono ?_
  rintro e v9 ⟨rfl, hb9'⟩
  have s59 := s58.trans (hb9'.mono s58.size)
  have s49 := s48.trans (hb9'.mono s48.size)
  have hb9 := hb4.trans (s49.mono hb4.size)
  have hsh9 := hsh.on s49
  go_wp2_with fail
  refine (markStateS v3.heap.size v4.heap.size gX _ l.length css _ ⟨hXg, hXl⟩ hsh9 HC.out.n).mono ?_
  rintro e v10 ⟨k, rfl, hk, ht10⟩
  have hdk : decide (k < 0) = false := decide_eq_false (by omega)
  have hb10 := Touch.below hb9 ht10 hb9.size (fun i hi => Nat.le_trans hb3.size hi.1)
  have qB1 := (hB1.on s59).touch ht10 (by omega)
  have qB2 := (hB2.on s59).touch ht10 (by omega)
  have qA1 := (hA1'.on s59).touch ht10 (by omega)
  have qA2 := (hA2'.on s59).touch ht10 (by omega)
  clear hB1 hB2 hA1 hA2 hA1' hA2' hX hsh hsh9 hA hC
  go_wp2_with fail
  refine (eqIntS _ _ (envLow l) _ _ _ qB1.rdInts qA1.rdInts (by omega)).mono ?_
  rintro e v11 ⟨rfl, hb11'⟩
  go_wp2_with fail
  refine (eqIntS _ _ (envHigh l) _ _ _ (qB2.on hb11').rdInts (qA2.on hb11').rdInts (by omega)).mono ?_
  rintro e v12 ⟨rfl, hb12'⟩
  have s12 := hb11'.trans (hb12'.mono hb11'.size)
  have hb12 := hb10.trans (s12.mono hb10.size)
  have rB1 := qB1.on s12
  have rB2 := qB2.on s12
  have rA1 := qA1.on s12
  have rA2 := qA2.on s12
  clear qB1 qB2 qA1 qA2
  go_wp2_with fail
  refine (markIntS b1 _ (envLow l) T1 _ _ _ rB1 (by omega) (by omega) (by omega)).mono ?_
  rintro e v13 ⟨rfl, uB1, ht13⟩
  have hb13 := Touch.below hb12 ht13 hb12.size (fun i hi => by subst hi; exact Nat.le_trans hb4.size hb1')
  have uB2 := rB2.touch ht13 (Ne.symm hne)
  have uA1 := rA1.touch ht13 (by omega)
  have uA2 := rA2.touch ht13 (by omega)
  clear rB1 rB2 rA1 rA2
  go_wp2_with fail
  refine (markIntS b2 _ (envHigh l) T2 _ _ _ uB2 (by omega) (by omega) (by omega)).mono ?_
  rintro e v14 ⟨rfl, xB2, ht14⟩
  have hb14 := Touch.below hb13 ht14 hb13.size (fun i hi => by subst hi; exact Nat.le_trans hb4.size hb2'')
  have xB1 := uB1.touch ht14 hne
  have xA1 := uA1.touch ht14 (by omega)
  have xA2 := uA2.touch ht14 (by omega)
  clear uB1 uB2 uA1 uA2
  have d1 : decide ((1 : Int) + ((envLow l).length : Int) < 0) = false := decide_eq_false (by omega)
  have d2 : decide ((1 : Int) + ((envLow l).length : Int) + ((envHigh l).length : Int) < 0) = false := decide_eq_false (by omega)
  go_wp2_with fail
  refine (heldIntS _ _ _ _ _ xB1.rdInts (by omega) (by omega) (by omega)).mono ?_
  rintro e v15 ⟨rfl, h15⟩
  obtain rfl := h15.symm
  go_wp2_with fail
  refine (heldIntS _ _ _ _ _ xB2.rdInts (by omega) (by omega) (by omega)).mono ?_
  rintro e v15 ⟨rfl, h15⟩
  obtain rfl := h15.symm
  go_wp2_with fail
  refine (toStateS A l c _ (hr.on hb14) HL.out).mono ?_
  rintro e v15 ⟨gD, rfl, hD, hb15'⟩
  have hb15 := hb14.trans (hb15'.mono hb14.size)
  go_wp2_with fail
  refine (implEnvYes _ l _ _ hD.rd HL.out.fits HL.out.mass hn2 HO.out).mono ?_
  rintro e v16 ⟨c1, cc1, U1, c2, cc2, U2, rfl, hc1, hc2, _, hC1, hC2, hb16'⟩
  have s16 := hb15'.trans (hb16'.mono hb15'.size)
  have hb16 := hb14.trans (s16.mono hb14.size)
  go_wp2_with fail
  refine (eqIntS _ _ (envLow l) _ _ _ hC1.rdInts (xA1.on s16).rdInts (by omega)).mono ?_
  rintro e v17 ⟨rfl, hb17'⟩
  have s17 := s16.trans (hb17'.mono s16.size)
  go_wp2_with fail
  refine (eqIntS _ _ (envHigh l) _ _ _ (hC2.on hb17').rdInts (xA2.on s17).rdInts (by omega)).mono ?_
  rintro e v18 ⟨rfl, hb18'⟩
  have s18 := s17.trans (hb18'.mono s17.size)
  have hb18 := hb14.trans (s18.mono hb14.size)
  go_wp2_with fail
  refine (heldIntS _ _ _ _ _ (xB1.on s18).rdInts (by omega) (by omega) (by omega)).mono ?_
  rintro e v19 ⟨rfl, h15⟩
  obtain rfl := h15.symm
  go_wp2_with fail
  refine (heldIntS _ _ _ _ _ (xB2.on s18).rdInts (by omega) (by omega) (by omega)).mono ?_
  rintro e v19 ⟨rfl, h15⟩
  obtain rfl := h15.symm
  go_wp2_with fail
  go_ret
  exact ⟨rfl, hb18⟩
set_option maxRecDepth 100000 in
set_option maxHeartbeats 8000000 in
theorem envLawNo (A : Option Addr) (l : List StateR) (c : Nat) (w : World) (hr : RdSS w A l) (hl : lightAll l) (r : Int) (hz : szSs 1048576 l = r) (hr0 : 0 ≤ r) (hc : Counted l) (h : askOk l = false) :
    Calls Try.prog 5 #[.slice A l.length c] w fun e w' => e = .returned (.bool true) ∧ Below w.heap.size w w' := by
  have hn : l.length ≤ 1000000000000000 := by have := hl.1; omega
  have hn2 : l.length ≤ 1000000000000 := by have := hc.n; omega
  have HL := Lib.hid hl
  have HZ := Lib.hid hz
  have HC := Lib.hid hc
  have HO := Lib.hid h
  have hd : decide (r < 0) = false := decide_eq_false (by omega)
  have nil0 : ∀ (w : World) (A : Option Addr), RdI w A ([] : List Int) := fun w A i hi => by simp at hi
  have NIL := Lib.hid nil0
  have sq0 := Lib.hid (fun (w : World) (A : Option Addr) => show RdI w A (seq 1 0) from fun i hi => by simp [seq] at hi)
  clear hl hz hc h nil0
  go_enter Try.func5, Try.ntmps5
  go_wp2_with fail
  refine (szStateS A l c _ _ _ hr hn HL.out.fits (by omega) (by omega) HZ.out).mono ?_
  rintro e v1 ⟨rfl, hb1⟩
  go_wp2_with fail
  refine (toStateS A l c _ (hr.on hb1) HL.out).mono ?_
  rintro e v2 ⟨gA, rfl, hA, hb2'⟩
  have hb2 := hb1.trans (hb2'.mono hb1.size)
  go_wp2_with fail
  refine (specEnvNo _ l _ _ hA.rd HL.out.fits hn2 HO.out).mono ?_
  rintro e v3 ⟨a1, a2, rfl, hb3'⟩
  have hb3 := hb2.trans (hb3'.mono hb2.size)
  go_wp2_with fail
  refine (toStateS A l c _ (hr.on hb3) HL.out).mono ?_
  rintro e v4 ⟨gX, rfl, hX, hb4'⟩
  have hb4 := hb3.trans (hb4'.mono hb3.size)
  obtain ⟨css, hsh⟩ := hX.shape HC.out.s
  have hXg := hX.1
  have hXl := hsh.2.2.lt
  go_wp2_with fail
  refine (implEnvNo _ l _ _ hX.rd HL.out.fits hn2 HO.out).mono ?_
  rintro e v5 ⟨rfl, hb5'⟩
  have hb5 := hb4.trans (hb5'.mono hb4.size)
  go_wp2_with fail
  refine (eqIntS _ _ [] _ _ _ (NIL.out _ _) (NIL.out _ _) (by simp)).mono ?_
  rintro e v6 ⟨rfl, hb6'⟩
  go_wp2_with fail
  refine (eqIntS _ _ [] _ _ _ (NIL.out _ _) (NIL.out _ _) (by simp)).mono ?_
  rintro e v7 ⟨rfl, hb7'⟩
  have s67 := hb6'.trans (hb7'.mono hb6'.size)
  have hb7 := hb5.trans (s67.mono hb5.size)
  go_wp2_with fail
  refine (toStateS A l c _ (hr.on hb7) HL.out).mono ?_
  rintro e v8 ⟨gC, rfl, hC, hb8'⟩
  have s58 := s67.trans (hb8'.mono s67.size)
  have s48 := hb5'.trans (s58.mono hb5'.size)
  go_wp2_with fail
  refine (eqStateS _ _ l _ _ _ ((hX.on s48).rd) hC.rd hn HL.out.fits).mono ?_
  rintro e v9 ⟨rfl, hb9'⟩
  have s49 := s48.trans (hb9'.mono s48.size)
  have hb9 := hb4.trans (s49.mono hb4.size)
  have hsh9 := hsh.on s49
  go_wp2_with fail
  refine (markStateS v3.heap.size v4.heap.size gX _ l.length css _ ⟨hXg, hXl⟩ hsh9 HC.out.n).mono ?_
  rintro e v10 ⟨k, rfl, hk, ht10⟩
  have hdk : decide (k < 0) = false := decide_eq_false (by omega)
  have hb10 := Touch.below hb9 ht10 hb9.size (fun i hi => Nat.le_trans hb3.size hi.1)
  clear hX hsh hsh9 hA hC
  go_wp2_with fail
  refine (eqIntS _ _ [] _ _ _ (NIL.out _ _) (NIL.out _ _) (by simp)).mono ?_
  rintro e v11 ⟨rfl, hb11'⟩
  go_wp2_with fail
  refine (eqIntS _ _ [] _ _ _ (NIL.out _ _) (NIL.out _ _) (by simp)).mono ?_
  rintro e v12 ⟨rfl, hb12'⟩
  have s12 := hb11'.trans (hb12'.mono hb11'.size)
  have hb12 := hb10.trans (s12.mono hb10.size)
  go_wp2_with fail
  refine (markNil _ _ _).mono ?_
  rintro e v13 ⟨rfl, h15⟩
  obtain rfl := h15.symm
  go_wp2_with fail
  refine (markNil _ _ _).mono ?_
  rintro e v13 ⟨rfl, h15⟩
  obtain rfl := h15.symm
  go_wp2_with fail
  refine (heldIntS _ _ 0 _ _ (sq0.out _ _) (by omega) (by omega) (by omega)).mono ?_
  rintro e v15 ⟨rfl, h15⟩
  obtain rfl := h15.symm
  go_wp2_with fail
  refine (heldIntS _ _ 0 _ _ (sq0.out _ _) (by omega) (by omega) (by omega)).mono ?_
  rintro e v15 ⟨rfl, h15⟩
  obtain rfl := h15.symm
  go_wp2_with fail
  refine (toStateS A l c _ (hr.on hb12) HL.out).mono ?_
  rintro e v15 ⟨gD, rfl, hD, hb15'⟩
  have hb15 := hb12.trans (hb15'.mono hb12.size)
  go_wp2_with fail
  refine (implEnvNo _ l _ _ hD.rd HL.out.fits hn2 HO.out).mono ?_
  rintro e v16 ⟨rfl, hb16'⟩
  have hb16 := hb15.trans (hb16'.mono hb15.size)
  go_wp2_with fail
  refine (eqIntS _ _ [] _ _ _ (NIL.out _ _) (NIL.out _ _) (by simp)).mono ?_
  rintro e v17 ⟨rfl, hb17'⟩
  have hb17 := hb16.trans (hb17'.mono hb16.size)
  go_wp2_with fail
  refine (eqIntS _ _ [] _ _ _ (NIL.out _ _) (NIL.out _ _) (by simp)).mono ?_
  rintro e v18 ⟨rfl, hb18'⟩
  have hb18 := hb17.trans (hb18'.mono hb17.size)
  go_wp2_with fail
  refine (heldIntS _ _ 0 _ _ (sq0.out _ _) (by omega) (by omega) (by omega)).mono ?_
  rintro e v19 ⟨rfl, h15⟩
  obtain rfl := h15.symm
  go_wp2_with fail
  refine (heldIntS _ _ 0 _ _ (sq0.out _ _) (by omega) (by omega) (by omega)).mono ?_
  rintro e v19 ⟨rfl, h15⟩
  obtain rfl := h15.symm
  go_wp2_with fail
  go_ret
  exact ⟨rfl, hb18⟩
theorem envLaw (A : Option Addr) (l : List StateR) (c : Nat) (w : World) (hr : RdSS w A l) (hl : lightAll l) :
    Calls Try.prog 5 #[.slice A l.length c] w fun e w' => e = .returned (.bool true) ∧ Below w.heap.size w w' := by
  rcases szSs_in 1048576 l (by omega) with h | ⟨h, _⟩
  · exact envLawShort A l c w hr hl h
  · cases ha : askOk l
    · exact envLawNo A l c w hr hl _ rfl h (counted_of h) ha
    · exact envLawYes A l c w hr hl _ rfl h (counted_of h) ha
end Go.Proofs.Ythdiilcpelioaaa
