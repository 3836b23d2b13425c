/- Rows of records: blocks whose cells are rows of equal length; what a made block holds, cells set one after the other, rows that read as a list. -/
import Derived.Test.YthdiilcpelioaaaBase
import Derived.Deep.MidRow
set_option linter.unusedVariables false
set_option linter.unusedSimpArgs false
namespace Go.Proofs.Ythdiilcpelioaaa
open Go.RowKit
/-- Cells are set one after the other. -/
def sets : List Value → Nat → List Value → List Value
  | xs, _, [] => xs
  | xs, m, f :: fs => sets (xs.set m f) (m + 1) fs
theorem sets_mid (F : List Value) : ∀ (P Z T : List Value) (m : Nat), P.length = m → Z.length = F.length → sets (P ++ (Z ++ T)) m F = P ++ (F ++ T) := by
  induction F with
  | nil =>
    intro P Z T m hm hz
    have : Z = [] := List.eq_nil_of_length_eq_zero hz
    subst this
    rfl
  | cons f F ih =>
    intro P Z T m hm hz
    cases Z with
    | nil => simp at hz
    | cons z Z =>
      have e : (P ++ (z :: Z ++ T)).set m f = (P ++ [f]) ++ (Z ++ T) := by
        subst hm
        simp [List.set_append]
      rw [sets, e, ih (P ++ [f]) Z T (m + 1) (by simp [hm]) (by simpa using hz)]
      simp
theorem flat_len {α : Type} {n : Nat} {css : List (List α)} (h : ∀ c ∈ css, c.length = n) : css.flatten.length = css.length * n := by
  induction css with
  | nil => simp
  | cons c css ih =>
    rw [List.flatten_cons, List.length_append, ih (fun c hc => h c (List.mem_cons_of_mem _ hc)), h c (List.mem_cons_self ..), List.length_cons, Nat.add_mul]
    omega
theorem flat_at {α : Type} {n : Nat} {css : List (List α)} (h : ∀ c ∈ css, c.length = n) (T : List α) {i : Nat} (hi : i < css.length) {j : Nat} (hj : j < n) : (css.flatten ++ T)[i * n + j]? = css[i][j]? := by
  induction css generalizing i with
  | nil => simp at hi
  | cons c css ih =>
    have hc := h c (List.mem_cons_self ..)
    rw [List.flatten_cons, List.append_assoc]
    cases i with
    | zero =>
      rw [Nat.zero_mul, Nat.zero_add, List.getElem?_append_left (by omega)]
      rfl
    | succ i =>
      rw [List.getElem?_append_right (by rw [hc, Nat.add_mul]; omega), hc, show (i + 1) * n + j - n = i * n + j by rw [Nat.add_mul]; omega]
      rw [ih (fun c hc => h c (List.mem_cons_of_mem _ hc)) (by simpa using hi)]
      rfl
theorem made_flat (zs : List Value) (m : Nat) (h0 : 0 < zs.length) : (madeCells zs.toArray (m * zs.length)).toList = (List.replicate m zs).flatten := by
  have hl : ((List.replicate m zs).flatten).length = m * zs.length := by
    rw [flat_len (n := zs.length) (fun c hc => by rw [List.eq_of_mem_replicate hc]), List.length_replicate]
  apply List.ext_getElem?
  intro i
  by_cases hi : i < m * zs.length
  · have hq : i / zs.length < m := by rw [Nat.div_lt_iff_lt_mul h0]; exact hi
    have hr : i % zs.length < zs.length := Nat.mod_lt _ h0
    have e : i = i / zs.length * zs.length + i % zs.length := by rw [Nat.mul_comm]; exact (Nat.div_add_mod i zs.length).symm
    have f := flat_at (css := List.replicate m zs) (n := zs.length) (fun c hc => by rw [List.eq_of_mem_replicate hc]) [] (i := i / zs.length) (by simpa using hq) (j := i % zs.length) hr
    rw [List.append_nil, ← e] at f
    rw [f, List.getElem_replicate]
    simp [madeCells, hi, getElem!_def, hr]
  · rw [List.getElem?_eq_none (by simp [size_madeCells]; omega), List.getElem?_eq_none (by omega)]
theorem replicate_step {α : Type} {n k : Nat} (h : k < n) (z : α) : List.replicate (n - k) z = z :: List.replicate (n - (k + 1)) z := by
  rw [show n - k = (n - (k + 1)) + 1 by omega, List.replicate_succ]
/-- A block of rows reads as a list, if each row stands for its element. -/
theorem Blk.rds {α : Type} {n : Nat} {enc : World → α → List Value → Prop} {w : World} {g : Nat} {e : TypeId} {css : List (List Value)} {T : List Value} {l : List α} (h : Blk w g e (css.flatten ++ T))
    (hlen : css.length = l.length) (hn : ∀ c ∈ css, c.length = n) (he : ∀ (i : Nat) (h : i < l.length) (h' : i < css.length), enc w l[i] css[i]) : Rds n enc w (some ⟨g, 0, none⟩) l := fun i hi => by
  have hi' : i < css.length := by omega
  refine ⟨g, 0, css[i], rfl, h.lt, hn _ (List.getElem_mem hi'), he i hi hi', fun j v hj => ?_⟩
  have hj' : j < n := by
    have h1 := (List.getElem?_eq_some_iff.1 hj).1
    rw [hn _ (List.getElem_mem hi')] at h1
    exact h1
  rw [Nat.zero_add]
  exact h.cell ((flat_at hn T hi' hj').trans hj)
theorem Rds.on {α : Type} {n : Nat} {enc : World → α → List Value → Prop} (hE : ∀ w w' x cs, enc w x cs → Below w.heap.size w w' → enc w' x cs) {w w' : World} {A : Option Addr} {l : List α} (h : Rds n enc w A l) (hb : Below w.heap.size w w') : Rds n enc w' A l := fun i hi => by
  obtain ⟨b, o, cs, e, hlt, hn, he, hc⟩ := h i hi
  exact ⟨b, o, cs, e, Nat.lt_of_lt_of_le hlt hb.size, hn, hE _ _ _ _ he hb, fun j v hj => cell_on hb (hc j v hj)⟩
theorem Blk.sets {g : Nat} {e : TypeId} (fs : List Value) : ∀ {w : World} {xs : List Value} (m : Nat), Blk w g e xs → Blk (World.setCells w g m fs) g e (Go.Proofs.Ythdiilcpelioaaa.sets xs m fs) := by
  induction fs with
  | nil => intro w xs m h; exact h
  | cons f fs ih => intro w xs m h; exact ih (m + 1) (h.set m f)
theorem below_sets {B g : Nat} {w : World} (hg : B ≤ g) (fs : List Value) : ∀ {w' : World} (m : Nat), Below B w w' → Below B w (World.setCells w' g m fs) := by
  induction fs with
  | nil => intro w' m h; exact h
  | cons f fs ih => intro w' m h; exact ih (m + 1) (h.setCell (p := ⟨g, m, none⟩) hg f)
/-- One round of a loop that fills a made block row by row. -/
theorem Blk.fill {w : World} {g : Nat} {e : TypeId} {css : List (List Value)} {zs f : List Value} {n k m : Nat} (h : Blk w g e (css.flatten ++ (List.replicate (m - k) zs).flatten)) (hk : k < m) (hz : zs.length = n) (hn : ∀ c ∈ css, c.length = n) (hc : css.length = k) (hf : f.length = n) :
    Blk (World.setCells w g (k * n) f) g e ((css ++ [f]).flatten ++ (List.replicate (m - (k + 1)) zs).flatten) := by
  have h1 := Blk.sets f (k * n) h
  rw [replicate_step hk, List.flatten_cons, sets_mid f _ _ _ _ (by rw [flat_len hn, hc]) (by omega)] at h1
  simpa using h1
theorem Blk.spare {w : World} {g : Nat} {e : TypeId} {css : List (List Value)} {zs : List Value} {n k m : Nat} (h : Blk w g e (css.flatten ++ (List.replicate (m - k) zs).flatten)) (hk : k < m) (hz : zs.length = n) (hn : ∀ c ∈ css, c.length = n) (hc : css.length = k) {j : Nat} {v : Value} (hv : zs[j]? = some v) : w.cell? ⟨g, k * n + j, none⟩ = some v := by
  refine h.cell ?_
  have hj : j < zs.length := (List.getElem?_eq_some_iff.1 hv).1
  rw [List.getElem?_append_right (by rw [flat_len hn, hc]; omega), flat_len hn, hc, replicate_step hk, List.flatten_cons, show k * n + j - k * n = j by omega, List.getElem?_append_left hj, hv]
theorem Blk.other {w : World} {g g' : Nat} {e : TypeId} {xs : List Value} (h : Blk w g e xs) (hne : g' ≠ g) (i : Nat) (v : Value) : Blk (w.setCell ⟨g', i, none⟩ v) g e xs := by
  unfold Blk at h ⊢
  simp only [World.setCell, Array.getElem?_modify, h, if_neg hne]
theorem Blk.there {w : World} {g : Nat} {e : TypeId} {xs : List Value} (h : Blk w g e xs) (o n : Nat) (hn : o + n ≤ xs.length) : w.there g o n := fun j hj => by
  refine ⟨?_, h.frozen _⟩
  rw [h.cell (v := xs[o + j]'(by omega)) (List.getElem?_eq_getElem (by omega))]; rfl
theorem Blk.others {g g' : Nat} {e : TypeId} {xs : List Value} (hne : g' ≠ g) (fs : List Value) : ∀ {w : World} (m : Nat), Blk w g e xs → Blk (World.setCells w g' m fs) g e xs := by
  induction fs with
  | nil => intro w m h; exact h
  | cons f fs ih => intro w m h; exact ih (m + 1) (h.other hne m f)
/-- Two blocks, one behind the other. -/
theorem blk2 (w : World) (t0 t1 : TypeId) (a b : List Value) :
    Blk ((w.alloc (.cells a.toArray t0)).alloc (.cells b.toArray t1)) w.heap.size t0 a ∧ Blk ((w.alloc (.cells a.toArray t0)).alloc (.cells b.toArray t1)) (w.heap.size + 1) t1 b ∧
      ((w.alloc (.cells a.toArray t0)).alloc (.cells b.toArray t1)).heap.size = w.heap.size + 1 + 1 ∧ Below w.heap.size w ((w.alloc (.cells a.toArray t0)).alloc (.cells b.toArray t1)) := by
  have h0 := (Blk.new w t0 a).on (below_new _ (.cells b.toArray t1))
  have h1 := Blk.new (w.alloc (.cells a.toArray t0)) t1 b
  have e1 : (w.alloc (.cells a.toArray t0)).heap.size = w.heap.size + 1 := by simp
  rw [e1] at h1
  exact ⟨h0, h1, by simp, by go_grown⟩
/-- Three blocks, one behind the other. -/
theorem blk3 (w : World) (t0 t1 t2 : TypeId) (a b c : List Value) :
    Blk (((w.alloc (.cells a.toArray t0)).alloc (.cells b.toArray t1)).alloc (.cells c.toArray t2)) w.heap.size t0 a ∧ Blk (((w.alloc (.cells a.toArray t0)).alloc (.cells b.toArray t1)).alloc (.cells c.toArray t2)) (w.heap.size + 1) t1 b ∧
      Blk (((w.alloc (.cells a.toArray t0)).alloc (.cells b.toArray t1)).alloc (.cells c.toArray t2)) (w.heap.size + 1 + 1) t2 c ∧ (((w.alloc (.cells a.toArray t0)).alloc (.cells b.toArray t1)).alloc (.cells c.toArray t2)).heap.size = w.heap.size + 1 + 1 + 1 ∧
      Below w.heap.size w (((w.alloc (.cells a.toArray t0)).alloc (.cells b.toArray t1)).alloc (.cells c.toArray t2)) := by
  have h0 := ((Blk.new w t0 a).on (below_new _ (.cells b.toArray t1))).on (below_new _ (.cells c.toArray t2))
  have h1 := (Blk.new (w.alloc (.cells a.toArray t0)) t1 b).on (below_new _ (.cells c.toArray t2))
  have h2 := Blk.new ((w.alloc (.cells a.toArray t0)).alloc (.cells b.toArray t1)) t2 c
  have e1 : (w.alloc (.cells a.toArray t0)).heap.size = w.heap.size + 1 := by simp
  have e2 : ((w.alloc (.cells a.toArray t0)).alloc (.cells b.toArray t1)).heap.size = w.heap.size + 1 + 1 := by simp
  rw [e1] at h1
  rw [e2] at h2
  exact ⟨h0, h1, h2, by simp, by go_grown⟩
end Go.Proofs.Ythdiilcpelioaaa
