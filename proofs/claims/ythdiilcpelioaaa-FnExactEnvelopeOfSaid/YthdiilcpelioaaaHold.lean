/- FramesHold, by the reference and by the program (under way). -/
import Derived.Test.YthdiilcpelioaaaFrame
set_option linter.unusedVariables false
set_option linter.unusedSimpArgs false
namespace Go.Proofs.Ythdiilcpelioaaa
open Go.RowKit
structure LedR where
  a : Int
  b : Int
  c : Int
  d : Int
/-- A slice of ledgers that reads as l. -/
def RdL (w : World) (A : Option Addr) (l : List LedR) : Prop := ∀ (i : Nat) (h : i < l.length), ∃ b o, A = some ⟨b, o, none⟩ ∧ b < w.heap.size ∧
  w.cell? ⟨b, o + i * 4, none⟩ = some (.int .i64 l[i].a) ∧ w.cell? ⟨b, o + i * 4 + 1, none⟩ = some (.int .i64 l[i].b) ∧ w.cell? ⟨b, o + i * 4 + 2, none⟩ = some (.int .i64 l[i].c) ∧ w.cell? ⟨b, o + i * 4 + 3, none⟩ = some (.int .i64 l[i].d)
theorem RdL.on {w w' : World} {A : Option Addr} {l : List LedR} (h : RdL w A l) (hb : Below w.heap.size w w') : RdL w' A l := fun i hi => by
  obtain ⟨b, o, e, hlt, h0, h1, h2, h3⟩ := h i hi
  exact ⟨b, o, e, Nat.lt_of_lt_of_le hlt hb.size, cell_on hb h0, cell_on hb h1, cell_on hb h2, cell_on hb h3⟩
/-- A slice of frames that reads as l, its inner slices too. -/
def RdF (w : World) (A : Option Addr) (l : List FrameR) : Prop := ∀ (i : Nat) (h : i < l.length), ∃ b o A1 c1 A2 c2, A = some ⟨b, o, none⟩ ∧ b < w.heap.size ∧
  w.cell? ⟨b, o + i * 7, none⟩ = some (.int .i64 l[i].step) ∧ w.cell? ⟨b, o + i * 7 + 1, none⟩ = some (.int .i64 l[i].roots) ∧ w.cell? ⟨b, o + i * 7 + 2, none⟩ = some (.slice A1 l[i].leaves.length c1) ∧
  w.cell? ⟨b, o + i * 7 + 3, none⟩ = some (.int .i64 l[i].total) ∧ w.cell? ⟨b, o + i * 7 + 4, none⟩ = some (.int .i64 l[i].tracer) ∧ w.cell? ⟨b, o + i * 7 + 5, none⟩ = some (.int .i64 l[i].quantum) ∧ w.cell? ⟨b, o + i * 7 + 6, none⟩ = some (.slice A2 l[i].code.length c2) ∧
  RdId w A1 l[i].leaves ∧ RdI w A2 l[i].code
theorem RdF.on {w w' : World} {A : Option Addr} {l : List FrameR} (h : RdF w A l) (hb : Below w.heap.size w w') : RdF w' A l := fun i hi => by
  obtain ⟨b, o, A1, c1, A2, c2, e, hlt, h0, h1, h2, h3, h4, h5, h6, h7, h8⟩ := h i hi
  exact ⟨b, o, A1, c1, A2, c2, e, Nat.lt_of_lt_of_le hlt hb.size, cell_on hb h0, cell_on hb h1, cell_on hb h2, cell_on hb h3, cell_on hb h4, cell_on hb h5, cell_on hb h6, h7.on hb, h8.on hb⟩
/-- Do frames g, f disagree with the ledger? -/
def stepBad (g f : FrameR) (l : LedR) : Bool := decide (f.step ≤ g.step) || ((f.total != IntKind.i64.wrap (IntKind.i64.wrap (g.total + l.a) - l.b)) || (f.tracer != IntKind.i64.wrap (IntKind.i64.wrap (g.tracer + l.c) - l.d)))
instance : Inhabited FrameR := ⟨⟨0, 0, [], 0, 0, 0, []⟩⟩
instance : Inhabited LedR := ⟨⟨0, 0, 0, 0⟩⟩
def okAt (fs : List FrameR) (ls : List LedR) (i : Nat) : Bool := (fs.getD i default).fine && (decide (i = 0) || !stepBad (fs.getD (i - 1) default) (fs.getD i default) (ls.getD (i - 1) default))
def framesOk (fs : List FrameR) (ls : List LedR) : Bool := decide (ls.length + 1 = fs.length) && (List.range fs.length).all (okAt fs ls)
theorem framesOk_no {fs : List FrameR} {ls : List LedR} {k : Nat} (hk : k < fs.length) (h : okAt fs ls k = false) : framesOk fs ls = false := by
  unfold framesOk
  rw [Bool.and_eq_false_iff]
  right
  rw [List.all_eq_false]
  exact ⟨k, List.mem_range.2 hk, by simp [h]⟩
theorem framesOk_yes {fs : List FrameR} {ls : List LedR} (hl : ls.length + 1 = fs.length) (h : ∀ i, i < fs.length → okAt fs ls i = true) : framesOk fs ls = true := by
  unfold framesOk
  rw [Bool.and_eq_true]
  exact ⟨by simpa using hl, List.all_eq_true.2 fun i hi => h i (List.mem_range.1 hi)⟩
theorem getD_at {α : Type} [Inhabited α] {l : List α} {i : Nat} (h : i < l.length) : l.getD i default = l[i] := by
  rw [List.getD_eq_getElem?_getD, List.getElem?_eq_getElem h]; rfl
end Go.Proofs.Ythdiilcpelioaaa
