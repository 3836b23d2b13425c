/- FnExactFramesHold: for every two arguments the law returns true, and each reads as it did. No condition. -/
import Derived.Test.YthdiilcpelioaaaRows
import Derived.Test.YthdiilcpelioaaaHoldLaw
import Derived.Test.YthdiilcpelioaaaOpen
import Derived.ProofKit
import Derived.OpenShut
import Derived.ChangeBears2
namespace Go.Proofs.Ythdiilcpelioaaa
open Go.ChangeShapes Go.WideShapes Go.ChangeAt Go.RowKit
set_option linter.unusedVariables false
theorem own : ownKnob Try.prog.godebug = none := by kernel_rfl
theorem laidOut : laidOutB Try.prog = true := by kernel_rfl
section
variable {H : Type} {enc : TypeId × Value → H} {w : World} {spare : Nat → Bool} {held : Bool}
theorem cLed : Try.prog.cellsOf 80 = 4 := by kernel_rfl
theorem bLed : Try.prog.bytesOf 80 = 32 := by kernel_rfl
theorem cFrame : Try.prog.cellsOf 71 = 7 := by kernel_rfl
theorem bFrame : Try.prog.bytesOf 71 = 88 := by kernel_rfl
set_option maxRecDepth 100000 in
theorem open_led {fuel : Nat} {cs : List Value} {y : DataW H × List MemPlace} (h : DataW.trod enc Try.prog w 0 spare held fuel 80 cs = some y) : ∃ x : LedR, encL w x cs := by
  obtain ⟨xs, n, rfl, rfl, hl, hsz, hf⟩ := DataW.trod_struct Try.underlying80 h
  rw [cLed] at hl
  match cs, hl with
  | [c0, c1, c2, c3], _ =>
    have h0 := hf 0 _ rfl
    have h1 := hf 1 _ rfl
    have h2 := hf 2 _ rfl
    have h3 := hf 3 _ rfl
    match xs, hsz with
    | [x0, x1, x2, x3], _ =>
      simp [cI64] at h0 h1 h2 h3
      obtain ⟨a, ha, e0⟩ := open_int h0
      obtain ⟨b, hb, e1⟩ := open_int h1
      obtain ⟨c, hc, e2⟩ := open_int h2
      obtain ⟨d, hd, e3⟩ := open_int h3
      simp at e0 e1 e2 e3
      subst e0 e1 e2 e3
      exact ⟨⟨a, b, c, d⟩, rfl⟩
set_option maxRecDepth 100000 in
theorem open_frame {fuel : Nat} {cs : List Value} {y : DataW H × List MemPlace} (h : DataW.trod enc Try.prog w 0 spare held fuel 71 cs = some y) (hs : Light Try.prog 71 y.1) :
    ∃ x : FrameR, (x.leaves.length * 24 ≤ reachBytes ∧ x.code.length * 8 ≤ reachBytes) ∧ encF w x cs := by
  obtain ⟨xs, n, rfl, rfl, hl, hsz, hf⟩ := DataW.trod_struct Try.underlying71 h
  rw [cFrame] at hl
  match cs, hl with
  | [c0, c1, c2, c3, c4, c5, c6], _ =>
    have h0 := hf 0 _ rfl
    have h1 := hf 1 _ rfl
    have h2 := hf 2 _ rfl
    have h3 := hf 3 _ rfl
    have h4 := hf 4 _ rfl
    have h5 := hf 5 _ rfl
    match xs, hsz with
    | [x0, x1, x2, x3, x4, x5], _ =>
      have s1 := light_field Try.underlying71 hs (i := 1) rfl (x := x1) rfl
      have s5 := light_field Try.underlying71 hs (i := 5) rfl (x := x5) rfl
      simp [cI64, cMesh, cIntS] at h0 h1 h2 h3 h4 h5
      obtain ⟨a, ha, e0⟩ := open_int h0
      obtain ⟨r, A1, l1, k1, e1, hr, hd1, _, hz1⟩ := open_mesh h1 s1
      obtain ⟨b, hb, e2⟩ := open_int h2
      obtain ⟨c, hc, e3⟩ := open_int h3
      obtain ⟨d, hd, e4⟩ := open_int h4
      obtain ⟨A2, l2, k2, e5, hd2, _, hz2⟩ := open_intS h5 s5
      simp at e0 e1 e2 e3 e4 e5
      obtain ⟨e1, e1'⟩ := e1
      subst e0 e1 e1' e2 e3 e4 e5
      exact ⟨⟨a, r, l1, b, c, d, l2⟩, ⟨hz1, hz2⟩, A1, k1, A2, k2, rfl, hd1, hd2⟩
set_option maxRecDepth 100000 in
theorem open_frames {v : Value} {d : DataW H} {p : List MemPlace} {r : Reach} {b0 : Nat} (hv : Value.okWide Try.prog w r b0 36 v) (h : DataW.Trod enc Try.prog w 0 spare held 36 v d p) (hs : Light Try.prog 36 d) :
    ∃ (A : Option Addr) (l : List FrameR) (c : Nat), v = .slice A l.length c ∧ RdF w A l ∧ fits l := by
  obtain ⟨a, len, cap, rfl⟩ := okWide_slice Try.underlying36 hv
  obtain ⟨fuel, hf⟩ := h
  obtain ⟨A, l, c, e, hr, ho, hl⟩ := open_rows (n := 7) (encX := encF) (okX := fun x : FrameR => x.leaves.length * 24 ≤ reachBytes ∧ x.code.length * 8 ≤ reachBytes) (by omega) Try.underlying36 cFrame bFrame (fun h hs => open_frame h hs) hf hs
  have hR : reachBytes ≤ 140737488355328 := by decide
  simp [Value.cells] at e
  obtain ⟨rfl, rfl, rfl⟩ := e
  exact ⟨_, l, _, rfl, rdF_of hr, by omega, fun f hf => by have := ho f hf; omega⟩
set_option maxRecDepth 100000 in
theorem open_ledgers {v : Value} {d : DataW H} {p : List MemPlace} {r : Reach} {b0 : Nat} (hv : Value.okWide Try.prog w r b0 37 v) (h : DataW.Trod enc Try.prog w 0 spare held 37 v d p) (hs : Light Try.prog 37 d) :
    ∃ (A : Option Addr) (l : List LedR) (c : Nat), v = .slice A l.length c ∧ RdL w A l ∧ l.length * 32 ≤ 140737488355328 := by
  obtain ⟨a, len, cap, rfl⟩ := okWide_slice Try.underlying37 hv
  obtain ⟨fuel, hf⟩ := h
  obtain ⟨A, l, c, e, hr, ho, hl⟩ := open_rows (n := 4) (encX := encL) (okX := fun x : LedR => True) (by omega) Try.underlying37 cLed bLed (fun h hs => by obtain ⟨x, hx⟩ := open_led h; exact ⟨x, trivial, hx⟩) hf hs
  have hR : reachBytes ≤ 140737488355328 := by decide
  simp [Value.cells] at e
  obtain ⟨rfl, rfl, rfl⟩ := e
  exact ⟨_, l, _, rfl, rdL_of' hr, by omega⟩
theorem light_of {ts : List TypeId} {ds : List (DataW H)} (h : (DataW.weightsEach Try.prog ts ds).all (· ≤ reachBytes) = true) {j : Nat} {t : TypeId} {d : DataW H} (ht : ts[j]? = some t) (hd : ds[j]? = some d) : Light Try.prog t d := fun k hk => by
  have := List.all_eq_true.1 h _ (DataW.weights_mem_each ht hd k hk)
  simpa using this
end
set_option maxRecDepth 100000 in
theorem holdLifted (os : Os) (started : os.Started) (H : Type) (enc : TypeId × Value → H) :
    ReturnsInHanded {} Try.checked os 4 .any (Rows.fnExactFramesHoldSpec.pre6 enc Try.prog Try.f4 Rows.fnExactFramesHoldRow.domain false)
      (Rows.fnExactFramesHoldSpec.post enc Try.prog Try.f4 false true false false) := by
  refine returnsInHanded_of_change_sized (C := Try.checked) own started (by kernel_rfl) Try.func4
    (ChangeSpec.witness6 (enc := enc) (C := Try.checked) false ⟨#[], #[.slice none 0 0, .slice none 0 0], []⟩ 8 (by kernel_rfl) (by kernel_rfl) (by kernel_rfl) (by kernel_rfl)) ?_
  intro W base args ds gs before hval0 hW _ hsz0 _
  have hval : ∀ (j : Nat) t v, Try.f4.params[j]? = some t → args[j]? = some v → Value.okWide Try.prog W .any base t v := hval0
  have hW' := hW
  obtain ⟨p, q, hA0, hV, rfl, _, _⟩ := hW
  have hA : DataW.TrodAll enc Try.prog W 0 (fun _ => true) true Try.f4.params.toList args.toList ds p := hA0
  have hsz : (DataW.weightsEach Try.prog (Try.f4.params.toList ++ Rows.fnExactFramesHoldSpec.plain.varTypes Try.prog) (ds ++ gs)).all (· ≤ reachBytes) = true := hsz0
  rw [Try.params4] at hA hval hsz
  obtain ⟨v0, v1, d0, d1, p0, p1, rfl, rfl, rfl, h0, h1⟩ := trodAll_two hA
  obtain ⟨rfl, rfl⟩ := trodVars_none hV
  obtain ⟨A, l, c, rfl, hr, hfit⟩ := open_frames (hval 0 36 v0 rfl rfl) h0 (light_of hsz (j := 0) rfl rfl)
  obtain ⟨B, ls, d, rfl, hrl, hfl⟩ := open_ledgers (hval 1 37 v1 rfl rfl) h1 (light_of hsz (j := 1) rfl rfl)
  have hlt0 : ∀ x ∈ p0, x.block < W.heap.size := by obtain ⟨m, hm⟩ := h0; exact DataW.trod_lt m _ _ _ hm
  have hlt1 : ∀ x ∈ p1, x.block < W.heap.size := by obtain ⟨m, hm⟩ := h1; exact DataW.trod_lt m _ _ _ hm
  clear hA0 hval0 hsz0
  simp only [List.append_nil] at hW'
  refine (holdLaw A B l ls c d W hr hrl hfit hfl).mono fun r W' ⟨he, hb⟩ => ?_
  subst he
  exact ⟨_, rfl, _, _, _, [], _, [], hW', trodAll_mk1 (shut_bool Try.underlying4 _), trodAll_mk2 (Below.trod laidOut (by kernel_rfl) (of_decide_eq_true (by kernel_rfl)) h0 hb hlt0) (Below.trod laidOut (by kernel_rfl) (of_decide_eq_true (by kernel_rfl)) h1 hb hlt1), rfl, hb.frame _, fun h => by cases h⟩
theorem fnExactFramesHold_holds : Rows.FnExactFramesHoldSaid :=
  OpenClaim.holds_of_wide 4 Try.f4 rfl rfl rfl rfl rfl rfl rfl ⟨rfl, rfl, rfl, rfl, rfl⟩ rfl rfl rfl rfl rfl (by kernel_rfl) Try.func4 (by kernel_rfl)
    (of_decide_eq_true (by kernel_rfl)) (by unfold Func.isWrapper; first | (rw [if_pos (by decide +kernel)]; kernel_rfl) | (rw [if_neg (by decide +kernel)]; exact ⟨rfl, rfl⟩))
    (fun os started H enc _ => holdLifted os started H enc)
#print axioms fnExactFramesHold_holds
end Go.Proofs.Ythdiilcpelioaaa
