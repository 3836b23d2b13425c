/- Words that all walks of this seat share: numbers within bounds, blocks whose cells are known, slices that read as lists. -/
import Derived.Test.YthdiilcpelioaaaProg
import Derived.Tactics2
import Derived.WalkKit
import Derived.Handy
import Derived.KernelRfl
import Derived.LoopTactic
import Derived.Outline
import Derived.Deep.RegionHeld3
import Derived.Deep.DeepCutAuto
import Derived.Deep.QuietTactic
import Derived.BigQuiet
import Derived.OwnWalk
import Derived.Lib.Hide
import Derived.Lib.SmallJoins
import Derived.Lib.UnsafeStr
import Derived.Lib.Builder
set_option linter.unusedVariables false
set_option linter.unusedSimpArgs false
namespace Go.Proofs.Ythdiilcpelioaaa
open Go.RowKit
def isInt (n : Int) : Prop := -9223372036854775808 ≤ n ∧ n ≤ 9223372036854775807
def inR (x a b : Int) : Bool := decide (a ≤ x) && decide (x ≤ b)
theorem inR_true {x a b : Int} : inR x a b = true ↔ a ≤ x ∧ x ≤ b := by simp [inR]
theorem below_new (w : World) (o : Obj) : Below w.heap.size w (w.alloc o) := (Below.refl _ w).alloc (Nat.le_refl _) o
theorem cell_on {w1 w2 : World} {a : Addr} {v : Value} (hb : Below w1.heap.size w1 w2) (h : w1.cell? a = some v) : w2.cell? a = some v := (hb.cell (World.block_lt_of_cell? w1 a h)).trans h
theorem own_on {w w' : World} {B k n : Nat} {e : TypeId} {v : Value} {xs : List Value} (h : w.ownsRow B e k v n xs) (hb : Below w.heap.size w w') : w'.ownsRow B e k v n xs :=
  h.kept (row := none) ⟨hb.os, hb.tape, hb.output, hb.size, fun i hi _ => hb.block i hi⟩ (Classical.em _)
/-- A block that holds just these cells. -/
def Blk (w : World) (g : Nat) (e : TypeId) (xs : List Value) : Prop := w.heap[g]? = some (.cells xs.toArray e (0, 0))
theorem Blk.lt {w : World} {g : Nat} {e : TypeId} {xs : List Value} (h : Blk w g e xs) : g < w.heap.size := (Array.getElem?_eq_some_iff.1 h).1
theorem Blk.cell {w : World} {g : Nat} {e : TypeId} {xs : List Value} (h : Blk w g e xs) {i : Nat} {v : Value} (hi : xs[i]? = some v) : w.cell? ⟨g, i, none⟩ = some v := by
  rw [Lib.cell_of_heap h]
  simpa using hi
theorem Blk.frozen {w : World} {g : Nat} {e : TypeId} {xs : List Value} (h : Blk w g e xs) (i : Nat) : w.frozen? ⟨g, i, none⟩ = false := Lib.frozen_of_heap h i
theorem Blk.on {w w' : World} {g : Nat} {e : TypeId} {xs : List Value} (h : Blk w g e xs) (hb : Below w.heap.size w w') : Blk w' g e xs := (hb.block g h.lt).trans h
theorem Blk.drew {w : World} {g : Nat} {e : TypeId} {xs : List Value} (h : Blk w g e xs) : Blk w.drew g e xs := h
theorem Blk.new (w : World) (e : TypeId) (xs : List Value) : Blk (w.alloc (.cells xs.toArray e)) w.heap.size e xs := heap_alloc_new w _
theorem Blk.set {w : World} {g : Nat} {e : TypeId} {xs : List Value} (h : Blk w g e xs) (i : Nat) (v : Value) : Blk (w.setCell ⟨g, i, none⟩ v) g e (xs.set i v) := by
  unfold Blk at h ⊢
  have hlt := (Array.getElem?_eq_some_iff.1 h).1
  simp only [World.setCell, Array.getElem?_modify, h]
  simp
theorem Blk.ofOwn {w : World} {B g n : Nat} {e : TypeId} {size : Nat} {xs : List Value} (h : w.ownsRow B e size (.slice (some ⟨g, 0, none⟩) n n) n xs) : Blk w g e xs := by
  rcases h.2 with ⟨h', _⟩ | ⟨g', cap, cur, hv, _, hg, _, _, hs, hx⟩
  · cases h'
  · simp only [Value.slice.injEq, Option.some.injEq, Addr.mk.injEq] at hv
    obtain ⟨⟨rfl, _⟩, _, rfl⟩ := hv
    have : cur.toList = xs := by rw [← hx, List.take_of_length_le (by rw [Array.length_toList, hs]; exact Nat.le_refl _)]
    unfold Blk
    rw [hg, ← this, Array.toArray_toList]
theorem exists_list {α : Type} {P : Nat → α → Prop} : ∀ {n : Nat}, (∀ i, i < n → ∃ x, P i x) → ∃ l : List α, l.length = n ∧ ∀ (i : Nat) (h : i < l.length), P i l[i]
  | 0, _ => ⟨[], rfl, fun i h => by simp at h⟩
  | n + 1, h => by
    obtain ⟨l, hl, hp⟩ := exists_list (n := n) fun i hi => h i (by omega)
    obtain ⟨x, hx⟩ := h n (by omega)
    refine ⟨l ++ [x], by simp [hl], fun i hi => ?_⟩
    by_cases hlt : i < l.length
    · rw [List.getElem_append_left hlt]
      exact hp i hlt
    · have : i = l.length := by simp at hi; omega
      subst this
      simpa [hl] using hx
/-- A slice whose elements, of `enc`'s cells each, read as `l`. -/
def Rds {α : Type} (n : Nat) (enc : World → α → List Value → Prop) (w : World) (A : Option Addr) (l : List α) : Prop := ∀ (i : Nat) (h : i < l.length), ∃ b o cs, A = some ⟨b, o, none⟩ ∧ b < w.heap.size ∧ cs.length = n ∧ enc w l[i] cs ∧ ∀ j v, cs[j]? = some v → w.cell? ⟨b, o + i * n + j, none⟩ = some v
theorem l01In (x a b : Int) (v : Bool) (w : World) (h : inR x a b = v) :
    Calls Try.prog 66 #[.int .i64 x, .int .i64 a, .int .i64 b] w fun e w' => e = .returned (.bool v) ∧ w' = w := by
  subst h
  go_enter Try.func66, Try.ntmps66
  by_cases h : a ≤ x
  all_goals
    have hd := h
    go_wp2
    go_ret
    refine ⟨by first | (simp [inR, h]; done) | (simp [inR, h]; omega), rfl⟩
theorem within (x a b : Int) (v : Bool) (w : World) (h : inR x a b = v) :
    Calls Try.prog 31 #[.int .i64 x, .int .i64 a, .int .i64 b] w fun e w' => e = .returned (.bool v) ∧ w' = w := by
  subst h
  go_enter Try.func31, Try.ntmps31
  by_cases h : a ≤ x
  all_goals
    have hd := h
    go_wp2
    go_ret
    refine ⟨by first | (simp [inR, h]; done) | (simp [inR, h]; omega), rfl⟩
/-- What Below keeps of three cells. -/
theorem three_step {B : Nat} {w w1 w2 : World} {p q r : Value} (hb : Below w1.heap.size w1 w2)
    (h : w1.cell? ⟨B, 0, none⟩ = some p ∧ w1.cell? ⟨B, 1, none⟩ = some q ∧ w1.cell? ⟨B, 2, none⟩ = some r ∧ B < w1.heap.size ∧ Below B w w1) :
    w2.cell? ⟨B, 0, none⟩ = some p ∧ w2.cell? ⟨B, 1, none⟩ = some q ∧ w2.cell? ⟨B, 2, none⟩ = some r ∧ B < w2.heap.size ∧ Below B w w2 := by
  obtain ⟨h0, h1, h2, h3, h4⟩ := h
  exact ⟨(hb.cell h3).trans h0, (hb.cell h3).trans h1, (hb.cell h3).trans h2, Nat.lt_of_lt_of_le h3 hb.size, h4.trans (hb.mono (Nat.le_of_lt h3))⟩
theorem three_init (w : World) (p q r : Value) (t : TypeId) :
    (w.alloc (.cells #[p, q, r] t)).cell? ⟨w.heap.size, 0, none⟩ = some p ∧ (w.alloc (.cells #[p, q, r] t)).cell? ⟨w.heap.size, 1, none⟩ = some q ∧ (w.alloc (.cells #[p, q, r] t)).cell? ⟨w.heap.size, 2, none⟩ = some r ∧ w.heap.size < (w.alloc (.cells #[p, q, r] t)).heap.size ∧ Below w.heap.size w (w.alloc (.cells #[p, q, r] t)) :=
  ⟨Lib.cell_of_heap (heap_alloc_new w _) _, Lib.cell_of_heap (heap_alloc_new w _) _, Lib.cell_of_heap (heap_alloc_new w _) _, by simp, below_new _ _⟩
end Go.Proofs.Ythdiilcpelioaaa
