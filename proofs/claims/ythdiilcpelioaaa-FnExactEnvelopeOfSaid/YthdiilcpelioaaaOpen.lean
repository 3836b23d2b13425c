/- Arguments opened: slices of records of whatever depth; how many elements memory takes. -/
import Derived.Test.YthdiilcpelioaaaFrms
import Derived.Deep.Slices
import Derived.SizedLaws
import Derived.Carry
set_option linter.unusedVariables false
set_option linter.unusedSimpArgs false
namespace Go.Proofs.Ythdiilcpelioaaa
open Go.ChangeShapes Go.WideShapes Go.ChangeAt Go.RowKit
theorem spot_none {w : World} {a : Addr} {v : Value} (h : w.cell? a = some v) : a.spot = none := by
  unfold World.cell? at h
  split at h
  · split at h
    · cases h
    · rename_i hs
      simpa using hs
  · cases h
theorem isInt_of {n : Int} (h : (Lit.int .i64 n).wf = true) : isInt n := by
  simpa [Lit.wf, IntKind.min, IntKind.max, IntKind.signed, IntKind.bits, isInt] using h
section
variable {H : Type} {enc : TypeId × Value → H} {P : Program} {w : World} {spare : Nat → Bool} {held : Bool}
/-- All that this datum reaches is no longer than memory takes. -/
def Light (P : Program) (t : TypeId) (d : DataW H) : Prop := ∀ k ∈ d.weights P t, k ≤ reachBytes
theorem mem_weightsAll {e : TypeId} {d : DataW H} {k : Nat} (hk : k ∈ d.weights P e) : ∀ {ds : List (DataW H)}, d ∈ ds → k ∈ DataW.weightsAll P e ds
  | x :: ds, h => by
    simp only [DataW.weightsAll, List.mem_append]
    rcases List.mem_cons.1 h with rfl | h
    · exact .inl hk
    · exact .inr (mem_weightsAll hk h)
  | [], h => by cases h
theorem open_rows {α : Type} {T e : TypeId} {n m : Nat} {encX : World → α → List Value → Prop} {okX : α → Prop} (hn0 : 0 < n) (ht : P.underlying T = some (.slice e)) (hn : P.cellsOf e = n) (hb : P.bytesOf e = m)
    (hopen : ∀ {fuel : Nat} {cs : List Value} {y : DataW H × List MemPlace}, DataW.trod enc P w 0 spare held fuel e cs = some y → Light P e y.1 → ∃ x, okX x ∧ encX w x cs)
    {fuel : Nat} {cs : List Value} {y : DataW H × List MemPlace} (h : DataW.trod enc P w 0 spare held fuel T cs = some y) (hs : Light P T y.1) :
    ∃ (A : Option Addr) (l : List α) (c : Nat), cs = [.slice A l.length c] ∧ Rds n encX w A l ∧ (∀ x ∈ l, okX x) ∧ l.length * m ≤ reachBytes := by
  rcases Deep.open_slice ht h with ⟨hcs, hx⟩ | ⟨a, len, cap, k, n', D, Pl, hcs, _, hlc, _, hm, hx, hel⟩
  · exact ⟨none, [], 0, hcs, fun i hi => by simp at hi, by simp, by simp⟩
  · subst hx
    have hle : len ≤ k := by rw [hm]; split <;> omega
    have hw : ∀ k' ∈ (DataW.slice ((List.range len).map D) ((List.range (k - len)).map fun j => D (len + j))).weights P T, k' ≤ reachBytes := hs
    simp only [DataW.weights, ht, List.mem_cons, List.mem_append] at hw
    have hlen := hw _ (.inl rfl)
    simp only [List.length_map, List.length_range, hb] at hlen
    have key : ∀ i, i < len → ∃ x : α, okX x ∧ ∃ cs', cs'.length = n ∧ encX w x cs' ∧ ∀ j, j < n → w.cell? ((a.add (i * n)).add j) = cs'[j]? := fun i hi => by
      obtain ⟨cs', h1, h2⟩ := hel i (by omega)
      rw [hn] at h1
      obtain ⟨x, hox, hex⟩ := hopen h2 (fun k' hk' => hw _ (.inr (.inl (mem_weightsAll hk' (List.mem_map.2 ⟨i, List.mem_range.2 hi, rfl⟩)))))
      obtain ⟨_, hl, hat⟩ := World.cells?_some h1
      exact ⟨x, hox, cs', hl, hex, hat⟩
    obtain ⟨l, hll, hl⟩ := exists_list key
    subst hll
    refine ⟨some a, l, cap, hcs, fun i hi => ?_, fun x hx => ?_, Nat.le_trans (Nat.mul_le_mul_right _ (by omega)) hlen⟩
    · obtain ⟨_, cs', hl1, hl2, hl3⟩ := hl i hi
      have hsp : a.spot = none := by
        obtain ⟨_, cs0, hl0, _, hl4⟩ := hl 0 (by omega)
        have h0 := hl4 0 hn0
        rw [List.getElem?_eq_getElem (by omega), Nat.zero_mul] at h0
        exact spot_none (a := a) (by simpa [Addr.add] using h0)
      obtain ⟨b, o, sp⟩ := a
      simp only at hsp
      subst hsp
      have e : ∀ j, ((Addr.mk b o none).add (i * n)).add j = ⟨b, o + i * n + j, none⟩ := fun j => by rw [Addr.add_lit, Addr.add_lit]
      have hc : ∀ j v, cs'[j]? = some v → w.cell? ⟨b, o + i * n + j, none⟩ = some v := fun j v hv => by
        have hj : j < n := by have := (List.getElem?_eq_some_iff.1 hv).1; omega
        rw [← e, hl3 j hj, hv]
      have hc0 := hc 0 (cs'[0]'(by omega)) (List.getElem?_eq_getElem (by omega))
      exact ⟨b, o, cs', rfl, World.block_lt_of_cell? w _ hc0, hl1, hl2, hc⟩
    · obtain ⟨i, hi, rfl⟩ := List.getElem_of_mem hx
      exact (hl i hi).1
/-- A record's fields, each light. -/
theorem light_field {T : TypeId} {fs : Array Field} (ht : P.underlying T = some (.struct fs)) {xs : List (DataW H × List MemPlace)} (hs : Light P T (.agg (xs.map (·.1)))) {i : Nat} {f : Field} {x : DataW H × List MemPlace} (hf : fs[i]? = some f) (hx : xs[i]? = some x) : Light P f.type x.1 := fun k hk => by
  refine hs k ?_
  simp only [DataW.weights, ht]
  exact DataW.weights_mem_each (j := i) (by simp [hf]) (by simp [hx]) k hk
def encI (w : World) (x : Int) (cs : List Value) : Prop := cs = [.int .i64 x]
def encId (w : World) (x : IdR) (cs : List Value) : Prop := cs = x.enc
def encL (w : World) (x : LedR) (cs : List Value) : Prop := cs = x.enc
theorem rdI_of {w : World} {A : Option Addr} {l : List Int} (h : Rds 1 encI w A l) : RdI w A l := fun i hi => by
  obtain ⟨b, o, cs, e, hlt, hn, rfl, hc⟩ := h i hi
  have := hc 0 _ rfl
  rw [Nat.mul_one] at this
  exact ⟨b, o, e, hlt, this⟩
theorem rdId_of {w : World} {A : Option Addr} {l : List IdR} (h : Rds 3 encId w A l) : RdId w A l := fun i hi => by
  obtain ⟨b, o, cs, e, hlt, hn, rfl, hc⟩ := h i hi
  exact ⟨b, o, e, hlt, hc 0 _ rfl, hc 1 _ rfl, hc 2 _ rfl⟩
theorem rdL_of' {w : World} {A : Option Addr} {l : List LedR} (h : Rds 4 encL w A l) : RdL w A l := fun i hi => by
  obtain ⟨b, o, cs, e, hlt, hn, rfl, hc⟩ := h i hi
  exact ⟨b, o, e, hlt, hc 0 _ rfl, hc 1 _ rfl, hc 2 _ rfl, hc 3 _ rfl⟩
end
section
variable {H : Type} {enc : TypeId × Value → H} {w : World} {spare : Nat → Bool} {held : Bool}
theorem cI64 : Try.prog.cellsOf 3 = 1 := by kernel_rfl
theorem bI64 : Try.prog.bytesOf 3 = 8 := by kernel_rfl
theorem cId : Try.prog.cellsOf 122 = 3 := by kernel_rfl
theorem bId : Try.prog.bytesOf 122 = 24 := by kernel_rfl
theorem cIdS : Try.prog.cellsOf 67 = 1 := by kernel_rfl
theorem cIntS : Try.prog.cellsOf 26 = 1 := by kernel_rfl
theorem cMesh : Try.prog.cellsOf 69 = 2 := by kernel_rfl
theorem open_int {fuel : Nat} {cs : List Value} {y : DataW H × List MemPlace} (h : DataW.trod enc Try.prog w 0 spare held fuel 3 cs = some y) : ∃ x : Int, isInt x ∧ cs = [.int .i64 x] := by
  obtain ⟨a, e, _, wf⟩ := DataW.trod_int Try.underlying3 h
  exact ⟨a, isInt_of wf, e⟩
set_option maxRecDepth 100000 in
theorem open_id {fuel : Nat} {cs : List Value} {y : DataW H × List MemPlace} (h : DataW.trod enc Try.prog w 0 spare held fuel 122 cs = some y) (hs : Light Try.prog 122 y.1) : ∃ x : IdR, x.ok ∧ encId w x cs := by
  obtain ⟨xs, n, rfl, rfl, hl, hsz, hf⟩ := DataW.trod_struct Try.underlying122 h
  rw [cId] at hl
  match cs, hl with
  | [c0, c1, c2], _ =>
    have h0 := hf 0 _ rfl
    have h1 := hf 1 _ rfl
    have h2 := hf 2 _ rfl
    match xs, hsz with
    | [x0, x1, x2], _ =>
      simp [cI64] at h0 h1 h2
      obtain ⟨a, ha, e0⟩ := open_int h0
      obtain ⟨b, hb, e1⟩ := open_int h1
      obtain ⟨c, hc, e2⟩ := open_int h2
      simp at e0 e1 e2
      subst e0 e1 e2
      exact ⟨⟨a, b, c⟩, ⟨ha, hb, hc⟩, rfl⟩
theorem open_ids {fuel : Nat} {cs : List Value} {y : DataW H × List MemPlace} (h : DataW.trod enc Try.prog w 0 spare held fuel 67 cs = some y) (hs : Light Try.prog 67 y.1) :
    ∃ (A : Option Addr) (l : List IdR) (c : Nat), cs = [.slice A l.length c] ∧ RdId w A l ∧ (∀ x ∈ l, x.ok) ∧ l.length * 24 ≤ reachBytes := by
  obtain ⟨A, l, c, e, hr, ho, hl⟩ := open_rows (n := 3) (okX := IdR.ok) (encX := encId) (by omega) Try.underlying67 cId bId (fun h hs => open_id h hs) h hs
  exact ⟨A, l, c, e, rdId_of hr, ho, hl⟩
theorem open_intS {fuel : Nat} {cs : List Value} {y : DataW H × List MemPlace} (h : DataW.trod enc Try.prog w 0 spare held fuel 26 cs = some y) (hs : Light Try.prog 26 y.1) :
    ∃ (A : Option Addr) (l : List Int) (c : Nat), cs = [.slice A l.length c] ∧ RdI w A l ∧ (∀ x ∈ l, isInt x) ∧ l.length * 8 ≤ reachBytes := by
  obtain ⟨A, l, c, e, hr, ho, hl⟩ := open_rows (n := 1) (okX := isInt) (encX := encI) (by omega) Try.underlying26 cI64 bI64 (fun h hs => open_int h) h hs
  exact ⟨A, l, c, e, rdI_of hr, ho, hl⟩
set_option maxRecDepth 100000 in
theorem open_mesh {fuel : Nat} {cs : List Value} {y : DataW H × List MemPlace} (h : DataW.trod enc Try.prog w 0 spare held fuel 69 cs = some y) (hs : Light Try.prog 69 y.1) :
    ∃ (r : Int) (A : Option Addr) (l : List IdR) (c : Nat), cs = [.int .i64 r, .slice A l.length c] ∧ isInt r ∧ RdId w A l ∧ (∀ x ∈ l, x.ok) ∧ l.length * 24 ≤ reachBytes := by
  obtain ⟨xs, n, rfl, rfl, hl, hsz, hf⟩ := DataW.trod_struct Try.underlying69 h
  rw [cMesh] at hl
  match cs, hl with
  | [c0, c1], _ =>
    have h0 := hf 0 _ rfl
    have h1 := hf 1 _ rfl
    match xs, hsz with
    | [x0, x1], _ =>
      have s1 := light_field Try.underlying69 hs (i := 1) rfl (x := x1) rfl
      simp [cI64, cIdS] at h0 h1
      obtain ⟨a, ha, e0⟩ := open_int h0
      obtain ⟨A, l, c, e1, h2, h3, h4⟩ := open_ids h1 s1
      simp at e0 e1
      subst e0 e1
      exact ⟨a, A, l, c, rfl, ha, h2, h3, h4⟩
end
end Go.Proofs.Ythdiilcpelioaaa
