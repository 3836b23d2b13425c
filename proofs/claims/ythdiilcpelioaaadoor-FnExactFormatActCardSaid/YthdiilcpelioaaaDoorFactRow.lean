/- FnExactFormatAct's card: the law returns true at every input, the argument reads as it did; the table internal/strconv.uint64pow10 is tied to the program's text. -/
import Derived.Test.YthdiilcpelioaaaDoorFactLaw
import Derived.Test.YthdiilcpelioaaaDoorPay
namespace Go.Proofs.YthdiilcpelioaaaDoor
open Go.ChangeShapes Go.WideShapes Go.ChangeAt Go.RowKit
set_option linter.unusedVariables false
section
variable {H : Type} {enc : TypeId × Value → H} {w : World} {base : Nat} {spare : Nat → Bool} {held : Bool}
theorem cI64 : Tryd.prog.cellsOf 3 = 1 := by kernel_rfl
theorem cActL : Tryd.prog.cellsOf 29 = 4 := by kernel_rfl
/-- The argument opened: four numbers. -/
theorem open_act {r : Reach} {b0 : Nat} {v : Value} {d : DataW H} {p : List MemPlace} (hv : Value.okWide Tryd.prog w r b0 29 v) (h : DataW.Trod enc Tryd.prog w base spare held 29 v d p) :
    ∃ a b c e, v = led a b c e ∧ p = [] ∧ LedI a b c e ∧ ∀ (w' : World) (sp : Nat → Bool), DataW.Trod enc Tryd.prog w' base sp held 29 v d [] := by
  obtain ⟨cs, rfl, hsz⟩ := okWide_struct Tryd.underlying29 hv
  obtain ⟨c0, c1, c2, c3, rfl⟩ := Joins.array4 (hsz.trans cActL)
  obtain ⟨fuel, hf⟩ := h
  obtain ⟨y0, y1, y2, y3, n, hx, _, h0, h1, h2, h3⟩ := Joins.trod_struct4 Tryd.underlying29 hf
  rw [cI64] at h0 h1 h2 h3
  obtain ⟨a, e0, rfl, w0⟩ := DataW.trod_int Tryd.underlying3 h0
  obtain ⟨b, e1, rfl, w1⟩ := DataW.trod_int Tryd.underlying3 h1
  obtain ⟨c, e2, rfl, w2⟩ := DataW.trod_int Tryd.underlying3 h2
  obtain ⟨e, e3, rfl, w3⟩ := DataW.trod_int Tryd.underlying3 h3
  simp [Value.cells] at e0 e1 e2 e3 hx
  subst e0 e1 e2 e3
  obtain ⟨rfl, rfl⟩ := hx
  refine ⟨a, b, c, e, rfl, rfl, ⟨isInt_of w0, isInt_of w1, isInt_of w2, isInt_of w3⟩, fun w' sp => ⟨2, ?_⟩⟩
  have k := Joins.trod_struct4_mk (enc := enc) (w := w') (base := base) (spare := sp) (held := held) (n := 1) (cs := [.int .i64 a, .int .i64 b, .int .i64 c, .int .i64 e]) Tryd.underlying29 (by rw [cActL]; rfl)
    (y0 := (.lit (.int .i64 a), [])) (y1 := (.lit (.int .i64 b), [])) (y2 := (.lit (.int .i64 c), [])) (y3 := (.lit (.int .i64 e), []))
    (by rw [cI64]; exact trod_int_mk 0 Tryd.underlying3 w0) (by rw [cI64]; exact trod_int_mk 0 Tryd.underlying3 w1) (by rw [cI64]; exact trod_int_mk 0 Tryd.underlying3 w2) (by rw [cI64]; exact trod_int_mk 0 Tryd.underlying3 w3)
  simpa [Value.cells] using k
end
set_option maxRecDepth 100000 in
theorem factLifted (os : Os) (started : os.Started) (H : Type) (enc : TypeId × Value → H) :
    ReturnsInHanded {} Tryd.checked os 4 .any (fun w args => (Rows.fnExactFormatActSpec.pre enc Tryd.prog Tryd.f4 [] false w args ∧ laidMetH Tryd.prog laidAll w) ∧ sizedMet enc Tryd.prog Tryd.f4 (OpenSpec.ofChange Rows.fnExactFormatActSpec) false w args)
      (Rows.fnExactFormatActSpec.post enc Tryd.prog Tryd.f4 false true false false) := by
  refine returnsInHanded_of_change_and (C := Tryd.checked) (X := fun w _ => laidMetH Tryd.prog laidAll w) (fun _ _ _ hh h => h.of_heap hh) own started (by kernel_rfl) Tryd.func4
    (ChangeSpec.witness_shaped (enc := enc) (C := Tryd.checked) (os := os) (X := fun w _ => laidMetH Tryd.prog laidAll w) false (World.laidAll Tryd.prog os laidAll) #[led 0 0 0 0] 8 (World.laidAll_os _ _ _)
      (World.shaped_of_ZipB (by kernel_rfl) (by kernel_rfl)) (by kernel_rfl) (by kernel_rfl) (by kernel_rfl)
      (by rw [MakeChecks.laidMetH_plain _ _ _ (by kernel_rfl)]; exact laidMet_laidAll _ (by kernel_rfl) (by kernel_rfl))) ?_
  intro W base args ds gs before hval0 hW _ _ hL _
  have hval : ∀ (j : Nat) t v, Tryd.f4.params[j]? = some t → args[j]? = some v → Value.okWide Tryd.prog W .any base t v := hval0
  have hW' := hW
  obtain ⟨p, q, hA0, hV, rfl, _, _⟩ := hW
  have hA : DataW.TrodAll enc Tryd.prog W 0 (fun _ => true) true Tryd.f4.params.toList args.toList ds p := hA0
  rw [Tryd.params4] at hA hval
  obtain ⟨v0, d0, rfl, rfl, h0⟩ := trodAll_one hA
  obtain ⟨rfl, rfl⟩ := trodVars_none hV
  obtain ⟨a, b, c, e, rfl, rfl, hI, hback⟩ := open_act (hval 0 29 v0 rfl rfl) h0
  have hP := pow_of_laid hL
  clear hA0 hval0 hL
  simp only [List.append_nil] at hW'
  refine (factLaw a b c e W hI hP).mono fun r W' ⟨he, hb⟩ => ?_
  subst he
  exact ⟨_, rfl, _, _, _, [], [], [], hW', trodAll_mk1 (shut_bool Tryd.underlying4 _), trodAll_mk1 (hback W' _), rfl, hb.frame _, fun h => by cases h⟩
theorem factHolds : Rows.FnExactFormatActSaid :=
  OpenClaim.holds_of_wide 4 Tryd.f4 rfl rfl rfl rfl rfl rfl rfl ⟨rfl, rfl, rfl, rfl, rfl⟩ rfl rfl rfl rfl rfl (by kernel_rfl) Tryd.func4 (by kernel_rfl)
    (of_decide_eq_true (by kernel_rfl)) (by unfold Func.isWrapper; first | (rw [if_pos (by decide +kernel)]; kernel_rfl) | (rw [if_neg (by decide +kernel)]; exact ⟨rfl, rfl⟩))
    (fun os started H enc _ => factLifted os started H enc)
theorem fnExactFormatAct_card : Rows.FnExactFormatActCardSaid :=
  Claim7.holds_tied_plain_at .later [] [.data, .data, .data] true Rows.fnExactFormatActCard.stood.harness false factHolds (fun _ h => by cases h) (by kernel_rfl) (fun _ h => by cases h) fnExactFormatAct_row_tie rfl ⟨rfl, rfl⟩ (by kernel_rfl) rfl
    (fun f fn hf hfn => by
      obtain rfl : f = 4 := Option.some.inj ((show Tryd.prog.funcNamed "loop.example/g00982/laws.FnExactFormatAct" = some 4 by kernel_rfl).symm.trans hf) |>.symm
      obtain rfl : fn = Tryd.f4 := (Option.some.inj (Tryd.func4.symm.trans hfn)).symm
      exact ⟨by kernel_rfl, fun j t ht => by
        rw [Tryd.params4] at ht
        have hm : t ∈ [29] := by simpa using Array.mem_of_getElem? ht
        have hall : ([29].all fun u => !Tryd.prog.wantsStandIn u) = true := by kernel_rfl
        exact (show Tryd.prog.wantsStandIn t = false by simpa using List.all_eq_true.1 hall t hm)⟩)
    (by kernel_rfl)
#print axioms fnExactFormatAct_card
end Go.Proofs.YthdiilcpelioaaaDoor
