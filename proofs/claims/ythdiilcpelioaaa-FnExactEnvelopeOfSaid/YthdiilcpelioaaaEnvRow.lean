/- FnExactEnvelopeOf: for every argument the law returns true, and the argument reads as it did. No condition. -/
import Derived.Test.YthdiilcpelioaaaRows
import Derived.Test.YthdiilcpelioaaaEnvLaw
import Derived.Test.YthdiilcpelioaaaOpen
import Derived.ProofKit
import Derived.OpenShut
import Derived.ChangeBears2
namespace Go.Proofs.Ythdiilcpelioaaa
open Go.ChangeShapes Go.WideShapes Go.ChangeAt Go.RowKit
set_option linter.unusedVariables false
theorem own : ownKnob Try.prog.godebug = none := by kernel_rfl
theorem laidOut : laidOutB Try.prog = true := by kernel_rfl
section
variable {H : Type} {enc : TypeId × Value → H} {w : World} {spare : Nat → Bool} {held : Bool}
theorem cState : Try.prog.cellsOf 85 = 5 := by kernel_rfl
theorem bState : Try.prog.bytesOf 85 = 104 := by kernel_rfl
set_option maxRecDepth 100000 in
theorem open_state {fuel : Nat} {cs : List Value} {y : DataW H × List MemPlace} (h : DataW.trod enc Try.prog w 0 spare held fuel 85 cs = some y) (hs : Light Try.prog 85 y.1) :
    ∃ s : StateR, s.light ∧ encS w s cs := by
  obtain ⟨xs, n, rfl, rfl, hl, hsz, hf⟩ := DataW.trod_struct Try.underlying85 h
  rw [cState] at hl
  have hR : reachBytes ≤ 140737488355328 := by decide
  match cs, hl with
  | [c0, c1, c2, c3, c4], _ =>
    have h0 := hf 0 _ rfl
    have h1 := hf 1 _ rfl
    have h2 := hf 2 _ rfl
    have h3 := hf 3 _ rfl
    match xs, hsz with
    | [x0, x1, x2, x3], _ =>
      have s0 := light_field Try.underlying85 hs (i := 0) rfl (x := x0) rfl
      have s1 := light_field Try.underlying85 hs (i := 1) rfl (x := x1) rfl
      have s2 := light_field Try.underlying85 hs (i := 2) rfl (x := x2) rfl
      have s3 := light_field Try.underlying85 hs (i := 3) rfl (x := x3) rfl
      simp [cMesh, cIntS] at h0 h1 h2 h3
      obtain ⟨r, A1, l1, k1, e0, hr, hd1, _, hz1⟩ := open_mesh h0 s0
      obtain ⟨A2, l2, k2, e1, hd2, _, hz2⟩ := open_intS h1 s1
      obtain ⟨A3, l3, k3, e2, hd3, _, hz3⟩ := open_intS h2 s2
      obtain ⟨A4, l4, k4, e3, hd4, _, hz4⟩ := open_intS h3 s3
      simp at e0 e1 e2 e3
      obtain ⟨e0, e0'⟩ := e0
      subst e0 e0' e1 e2 e3
      exact ⟨⟨r, l1, l2, l3, l4⟩, ⟨Nat.le_trans hz1 hR, Nat.le_trans hz2 hR, Nat.le_trans hz3 hR, Nat.le_trans hz4 hR⟩, ⟨A1, k1, A2, k2, A3, k3, A4, k4⟩, rfl, hd1, hd2, hd3, hd4⟩
set_option maxRecDepth 100000 in
theorem open_states {v : Value} {d : DataW H} {p : List MemPlace} {r : Reach} {b0 : Nat} (hv : Value.okWide Try.prog w r b0 48 v) (h : DataW.Trod enc Try.prog w 0 spare held 48 v d p) (hs : Light Try.prog 48 d) :
    ∃ (A : Option Addr) (l : List StateR) (c : Nat), v = .slice A l.length c ∧ RdSS w A l ∧ lightAll l := by
  obtain ⟨a, len, cap, rfl⟩ := okWide_slice Try.underlying48 hv
  obtain ⟨fuel, hf⟩ := h
  obtain ⟨A, l, c, e, hr, ho, hl⟩ := open_rows (n := 5) (encX := encS) (okX := StateR.light) (by omega) Try.underlying48 cState bState (fun h hs => open_state h hs) hf hs
  have hR : reachBytes ≤ 140737488355328 := by decide
  simp [Value.cells] at e
  obtain ⟨rfl, rfl, rfl⟩ := e
  exact ⟨_, l, _, rfl, rdSS_of hr, by omega, ho⟩
theorem light_of {ts : List TypeId} {ds : List (DataW H)} (h : (DataW.weightsEach Try.prog ts ds).all (· ≤ reachBytes) = true) {j : Nat} {t : TypeId} {d : DataW H} (ht : ts[j]? = some t) (hd : ds[j]? = some d) : Light Try.prog t d := fun k hk => by
  have := List.all_eq_true.1 h _ (DataW.weights_mem_each ht hd k hk)
  simpa using this
end
set_option maxRecDepth 100000 in
theorem envLifted (os : Os) (started : os.Started) (H : Type) (enc : TypeId × Value → H) :
    ReturnsInHanded {} Try.checked os 5 .any (Rows.fnExactEnvelopeOfSpec.pre6 enc Try.prog Try.f5 Rows.fnExactEnvelopeOfRow.domain false)
      (Rows.fnExactEnvelopeOfSpec.post enc Try.prog Try.f5 false true false false) := by
  refine returnsInHanded_of_change_sized (C := Try.checked) own started (by kernel_rfl) Try.func5
    (ChangeSpec.witness6 (enc := enc) (C := Try.checked) false ⟨#[], #[.slice none 0 0], []⟩ 8 (by kernel_rfl) (by kernel_rfl) (by kernel_rfl) (by kernel_rfl)) ?_
  intro W base args ds gs before hval0 hW _ hsz0 _
  have hval : ∀ (j : Nat) t v, Try.f5.params[j]? = some t → args[j]? = some v → Value.okWide Try.prog W .any base t v := hval0
  have hW' := hW
  obtain ⟨p, q, hA0, hV, rfl, _, _⟩ := hW
  have hA : DataW.TrodAll enc Try.prog W 0 (fun _ => true) true Try.f5.params.toList args.toList ds p := hA0
  have hsz : (DataW.weightsEach Try.prog (Try.f5.params.toList ++ Rows.fnExactEnvelopeOfSpec.plain.varTypes Try.prog) (ds ++ gs)).all (· ≤ reachBytes) = true := hsz0
  rw [Try.params5] at hA hval hsz
  obtain ⟨v0, d0, rfl, rfl, h0⟩ := trodAll_one hA
  obtain ⟨rfl, rfl⟩ := trodVars_none hV
  obtain ⟨A, l, c, rfl, hr, hfit⟩ := open_states (hval 0 48 v0 rfl rfl) h0 (light_of hsz (j := 0) rfl rfl)
  have hlt0 : ∀ x ∈ p, x.block < W.heap.size := by obtain ⟨m, hm⟩ := h0; exact DataW.trod_lt m _ _ _ hm
  clear hA0 hval0 hsz0
  simp only [List.append_nil] at hW'
  refine (envLaw A l c W hr hfit).mono fun r W' ⟨he, hb⟩ => ?_
  subst he
  exact ⟨_, rfl, _, _, _, [], _, [], hW', trodAll_mk1 (shut_bool Try.underlying4 _), trodAll_mk1 (Below.trod laidOut (by kernel_rfl) (of_decide_eq_true (by kernel_rfl)) h0 hb hlt0), rfl, hb.frame _, fun h => by cases h⟩
theorem fnExactEnvelopeOf_holds : Rows.FnExactEnvelopeOfSaid :=
  OpenClaim.holds_of_wide 5 Try.f5 rfl rfl rfl rfl rfl rfl rfl ⟨rfl, rfl, rfl, rfl, rfl⟩ rfl rfl rfl rfl rfl (by kernel_rfl) Try.func5 (by kernel_rfl)
    (of_decide_eq_true (by kernel_rfl)) (by unfold Func.isWrapper; first | (rw [if_pos (by decide +kernel)]; kernel_rfl) | (rw [if_neg (by decide +kernel)]; exact ⟨rfl, rfl⟩))
    (fun os started H enc _ => envLifted os started H enc)
#print axioms fnExactEnvelopeOf_holds
end Go.Proofs.Ythdiilcpelioaaa
