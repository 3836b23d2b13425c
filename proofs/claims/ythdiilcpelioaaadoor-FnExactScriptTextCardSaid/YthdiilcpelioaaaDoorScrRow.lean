/- FnExactScriptText's card: the law returns true at every input, the argument reads as it did; the table internal/strconv.uint64pow10 is tied to the program's text. -/
import Derived.Test.YthdiilcpelioaaaDoorScrLaw
import Derived.Test.YthdiilcpelioaaaDoorPay
import Derived.Deep.Slices
import Derived.SizedLaws
import Derived.Carry
namespace Go.Proofs.YthdiilcpelioaaaDoor
open Go.ChangeShapes Go.WideShapes Go.ChangeAt Go.RowKit
set_option linter.unusedVariables false
theorem laidOut : laidOutB Tryd.prog = true := by kernel_rfl
theorem cI64 : Tryd.prog.cellsOf 3 = 1 := by kernel_rfl
theorem cActL : Tryd.prog.cellsOf 29 = 4 := by kernel_rfl
theorem bActL : Tryd.prog.bytesOf 29 = 32 := by kernel_rfl
theorem exists_list {α : Type} {P : Nat → α → Prop} : ∀ {n : Nat}, (∀ i, i < n → ∃ x, P i x) → ∃ l : List α, l.length = n ∧ ∀ (i : Nat) (h : i < l.length), P i l[i]
  | 0, _ => ⟨[], rfl, fun i h => by simp at h⟩
  | n + 1, h => by
    obtain ⟨l, hl, hp⟩ := exists_list (n := n) fun i hi => h i (by omega)
    obtain ⟨x, hx⟩ := h n (by omega)
    refine ⟨l ++ [x], by simp [hl], fun i hi => ?_⟩
    by_cases hlt : i < l.length
    · rw [List.getElem_append_left hlt]
      exact hp i hlt
    · have : i = l.length := by simp at hi; omega
      subst this
      simpa [hl] using hx
section
variable {H : Type} {enc : TypeId × Value → H} {w : World} {spare : Nat → Bool} {held : Bool}
/-- The cells of one act among the argument's. -/
theorem open_act_cells {n : Nat} {cs : List Value} {y : DataW H × List MemPlace} (h : DataW.trod enc Tryd.prog w 0 spare held n 29 cs = some y) : ∃ x : ActR, x.ok ∧ cs = x.enc := by
  obtain ⟨y0, y1, y2, y3, n, hx, hl, h0, h1, h2, h3⟩ := Joins.trod_struct4 Tryd.underlying29 h
  rw [cI64] at h0 h1 h2 h3
  rw [cActL] at hl
  match cs, hl with
  | [c0, c1, c2, c3], _ =>
    obtain ⟨a, e0, _, w0⟩ := DataW.trod_int Tryd.underlying3 h0
    obtain ⟨b, e1, _, w1⟩ := DataW.trod_int Tryd.underlying3 h1
    obtain ⟨c, e2, _, w2⟩ := DataW.trod_int Tryd.underlying3 h2
    obtain ⟨e, e3, _, w3⟩ := DataW.trod_int Tryd.underlying3 h3
    simp at e0 e1 e2 e3
    subst e0 e1 e2 e3
    exact ⟨⟨a, b, c, e⟩, ⟨isInt_of w0, isInt_of w1, isInt_of w2, isInt_of w3⟩, rfl⟩
/-- The argument opened: a list of acts. -/
theorem open_acts {v : Value} {d : DataW H} {p : List MemPlace} {r : Reach} {b0 : Nat} (hv : Value.okWide Tryd.prog w r b0 35 v) (h : DataW.Trod enc Tryd.prog w 0 spare held 35 v d p) :
    ∃ (A : Option Addr) (l : List ActR) (c : Nat), v = .slice A l.length c ∧ RdA w A l ∧ (∀ x ∈ l, x.ok) ∧ (l = [] ∨ ∃ xs ys, d = .slice xs ys ∧ xs.length = l.length) := by
  obtain ⟨a, len, cap, rfl⟩ := okWide_slice Tryd.underlying35 hv
  obtain ⟨fuel, hf⟩ := h
  rcases Deep.open_slice Tryd.underlying35 hf with ⟨hcs, hx⟩ | ⟨a', len', cap', m, n, D, Pl, hcs, _, hlc, _, hm, hx, hel⟩
  · simp [Value.cells] at hcs
    obtain ⟨rfl, rfl, rfl⟩ := hcs
    exact ⟨none, [], 0, rfl, fun i hi => by simp at hi, by simp, .inl rfl⟩
  · simp [Value.cells] at hcs
    obtain ⟨rfl, rfl, rfl⟩ := hcs
    have hle : len ≤ m := by rw [hm]; split <;> omega
    rw [cActL] at hel
    have key : ∀ i, i < len → ∃ x : ActR, x.ok ∧ ∀ j, j < 4 → w.cell? ((a'.add (i * 4)).add j) = x.enc[j]? := fun i hi => by
      obtain ⟨cs', h1, h2⟩ := hel i (by omega)
      obtain ⟨x, hx, rfl⟩ := open_act_cells h2
      exact ⟨x, hx, (World.cells?_some h1).2.2⟩
    obtain ⟨l, rfl, hl⟩ := exists_list key
    refine ⟨some a', l, cap, rfl, ?_, ?_, .inr ⟨_, _, (Prod.mk.inj hx).1, by simp⟩⟩
    · intro i hi
      have h0 := (hl i hi).2
      obtain ⟨b, o, sp⟩ := a'
      have hsp : sp = none := by
        have h00 := (hl 0 (by omega)).2 0 (by omega)
        cases sp with
        | none => rfl
        | some s => simp [Addr.add, World.cell?, ActR.enc] at h00; split at h00 <;> simp at h00
      subst hsp
      have e : ∀ j, ((Addr.mk b o none).add (i * 4)).add j = ⟨b, o + i * 4 + j, none⟩ := fun j => by rw [Addr.add_lit, Addr.add_lit]
      have c0 := h0 0 (by omega)
      have c1 := h0 1 (by omega)
      have c2 := h0 2 (by omega)
      have c3 := h0 3 (by omega)
      rw [e] at c0 c1 c2 c3
      simp [ActR.enc] at c0 c1 c2 c3
      exact ⟨b, o, rfl, World.block_lt_of_cell? w _ c0, c0, c1, c2, c3⟩
    · intro x hx
      obtain ⟨i, hi, rfl⟩ := List.getElem_of_mem hx
      exact (hl i hi).1
end
set_option maxRecDepth 100000 in
theorem scrLifted (os : Os) (started : os.Started) (H : Type) (enc : TypeId × Value → H) :
    ReturnsInHanded {} Tryd.checked os 5 .any (fun w args => (Rows.fnExactScriptTextSpec.pre enc Tryd.prog Tryd.f5 [] false w args ∧ laidMetH Tryd.prog laidAll w) ∧ sizedMet enc Tryd.prog Tryd.f5 (OpenSpec.ofChange Rows.fnExactScriptTextSpec) false w args)
      (Rows.fnExactScriptTextSpec.post enc Tryd.prog Tryd.f5 false true false false) := by
  refine returnsInHanded_of_change_and (C := Tryd.checked) (X := fun w _ => laidMetH Tryd.prog laidAll w) (fun _ _ _ hh h => h.of_heap hh) own started (by kernel_rfl) Tryd.func5
    (ChangeSpec.witness_shaped (enc := enc) (C := Tryd.checked) (os := os) (X := fun w _ => laidMetH Tryd.prog laidAll w) false (World.laidAll Tryd.prog os laidAll) #[.slice none 0 0] 8 (World.laidAll_os _ _ _)
      (World.shaped_of_ZipB (by kernel_rfl) (by kernel_rfl)) (by kernel_rfl) (by kernel_rfl) (by kernel_rfl)
      (by rw [MakeChecks.laidMetH_plain _ _ _ (by kernel_rfl)]; exact laidMet_laidAll _ (by kernel_rfl) (by kernel_rfl))) ?_
  intro W base args ds gs before hval0 hW _ hsz0 hL _
  have hval : ∀ (j : Nat) t v, Tryd.f5.params[j]? = some t → args[j]? = some v → Value.okWide Tryd.prog W .any base t v := hval0
  have hW' := hW
  obtain ⟨p, q, hA0, hV, rfl, _, _⟩ := hW
  have hA : DataW.TrodAll enc Tryd.prog W 0 (fun _ => true) true Tryd.f5.params.toList args.toList ds p := hA0
  rw [Tryd.params5] at hA hval
  obtain ⟨v0, d0, rfl, rfl, h0⟩ := trodAll_one hA
  obtain ⟨rfl, rfl⟩ := trodVars_none hV
  have hsz : (DataW.weightsEach Tryd.prog (Tryd.f5.params.toList ++ Rows.fnExactScriptTextSpec.plain.varTypes Tryd.prog) ([d0] ++ [])).all (· ≤ reachBytes) = true := hsz0
  obtain ⟨A, l, c, rfl, hr, ho, hd⟩ := open_acts (hval 0 35 v0 rfl rfl) h0
  have hl : l.length * 32 ≤ 140737488355328 := by
    rcases hd with rfl | ⟨xs, ys, rfl, hxl⟩
    · simp
    · have z := sized_slice hsz (j := 0) (t := 35) rfl rfl Tryd.underlying35
      rw [bActL, hxl] at z
      have hR : reachBytes ≤ 140737488355328 := by decide
      omega
  have hlt : ∀ x ∈ p, x.block < W.heap.size := by obtain ⟨m, hm⟩ := h0; exact DataW.trod_lt m _ _ _ hm
  have hP := pow_of_laid hL
  clear hA0 hval0 hL
  simp only [List.append_nil] at hW'
  refine (scrLaw A l c W hr ho hl hP).mono fun r W' ⟨he, hb⟩ => ?_
  subst he
  exact ⟨_, rfl, _, _, _, [], _, [], hW', trodAll_mk1 (shut_bool Tryd.underlying4 _), trodAll_mk1 (Below.trod laidOut (by kernel_rfl) (of_decide_eq_true (by kernel_rfl)) h0 hb hlt), rfl, hb.frame _, fun h => by cases h⟩
theorem scrHolds : Rows.FnExactScriptTextSaid :=
  OpenClaim.holds_of_wide 5 Tryd.f5 rfl rfl rfl rfl rfl rfl rfl ⟨rfl, rfl, rfl, rfl, rfl⟩ rfl rfl rfl rfl rfl (by kernel_rfl) Tryd.func5 (by kernel_rfl)
    (of_decide_eq_true (by kernel_rfl)) (by unfold Func.isWrapper; first | (rw [if_pos (by decide +kernel)]; kernel_rfl) | (rw [if_neg (by decide +kernel)]; exact ⟨rfl, rfl⟩))
    (fun os started H enc _ => scrLifted os started H enc)
theorem fnExactScriptText_card : Rows.FnExactScriptTextCardSaid :=
  Claim7.holds_tied_plain_at .later [] [.data, .data, .data] true Rows.fnExactScriptTextCard.stood.harness false scrHolds (fun _ h => by cases h) (by kernel_rfl) (fun _ h => by cases h) fnExactScriptText_row_tie rfl ⟨rfl, rfl⟩ (by kernel_rfl) rfl
    (fun f fn hf hfn => by
      obtain rfl : f = 5 := Option.some.inj ((show Tryd.prog.funcNamed "loop.example/g00982/laws.FnExactScriptText" = some 5 by kernel_rfl).symm.trans hf) |>.symm
      obtain rfl : fn = Tryd.f5 := (Option.some.inj (Tryd.func5.symm.trans hfn)).symm
      exact ⟨by kernel_rfl, fun j t ht => by
        rw [Tryd.params5] at ht
        have hm : t ∈ [35] := by simpa using Array.mem_of_getElem? ht
        have hall : ([35].all fun u => !Tryd.prog.wantsStandIn u) = true := by kernel_rfl
        exact (show Tryd.prog.wantsStandIn t = false by simpa using List.all_eq_true.1 hall t hm)⟩)
    (by kernel_rfl)
#print axioms fnExactScriptText_card
end Go.Proofs.YthdiilcpelioaaaDoor
