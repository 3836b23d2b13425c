/- What impl.FormatInt and impl.spaced return: a number's decimal text; a word and numbers behind single spaces. Conditions: numbers of int's range, texts far below 2^47 bytes, the table internal/strconv.uint64pow10 holds Go's powers of ten. -/
import Derived.Test.YthdiilcpelioaaaDoorBld
import Derived.Lib.AppendIntMem
import Derived.Lib.ItoaLen
import Derived.Lib.Hide
import Derived.LoopTactic
import Derived.Outline
set_option linter.unusedVariables false
set_option linter.unusedSimpArgs false
namespace Go.Proofs.YthdiilcpelioaaaDoor
open Go.RowKit
/-- The table of powers of ten, in this world and in every later one. -/
def Pow (w : World) : Prop := Lib.TabBelow Tryd.prog w.heap.size w "internal/strconv.uint64pow10" .u64 Lib.pow10Tab
theorem Pow.on {w w' : World} (h : Pow w) (hb : Below w.heap.size w w') : Pow w' := fun w2 h2 => Lib.TabBelow.on h hb w2 (h2.mono hb.size)
def isInt (n : Int) : Prop := -9223372036854775808 ≤ n ∧ n ≤ 9223372036854775807
theorem formatInt (n : Int) (w : World) (hn : isInt n) (hP : Pow w) :
    Calls Tryd.prog 19 #[.int .i64 n] w fun e w' => e = .returned (.string ⟨(Lib.itoa n).toArray⟩) ∧ Below w.heap.size w w' := by
  have hT := Lib.TabBelow.here hP
  obtain ⟨h0, h1⟩ := hn
  go_enter Tryd.func19, Tryd.ntmps19
  go_wp2_with (go_at_call 28; refine (Tryd.strconv_Itoa n h0 h1 _ hT).mono ?_)
  rintro e w1 ⟨rfl, k, os, rfl⟩
  go_wp2
  go_ret
  exact ⟨rfl, Lib.below_grow _ _ (Nat.le_refl _) _ _⟩
/-- The text of a word and numbers. -/
def spacedL (s : List UInt8) (l : List Int) : List UInt8 := s ++ l.flatMap fun n => 32 :: Lib.itoa n
theorem spacedL_snoc (s : List UInt8) (l : List Int) (n : Int) : spacedL s (l ++ [n]) = spacedL s l ++ (32 :: Lib.itoa n) := by
  simp [spacedL]
theorem spacedL_len (s : List UInt8) (l : List Int) (h : ∀ n ∈ l, isInt n) : (spacedL s l).length ≤ s.length + 22 * l.length := by
  have key : ∀ l : List Int, (∀ n ∈ l, isInt n) → (l.flatMap fun n => 32 :: Lib.itoa n).length ≤ 22 * l.length := by
    intro l
    induction l with
    | nil => simp
    | cons n l ih =>
      intro h
      have h1 := ih (fun m hm => h m (by simp [hm]))
      have h2 := h n (by simp)
      have h3 := Lib.itoa_length_le n h2.1 h2.2
      simp only [List.flatMap_cons, List.length_append, List.length_cons]
      omega
  have := key l h
  unfold spacedL
  simp only [List.length_append]
  omega
/-- A slice of ints that reads as l. -/
def Rdl (w : World) (A : Option Addr) (l : List Int) : Prop := ∀ (i : Nat) (h : i < l.length), ∃ ad, A = some ad ∧ ad.block < w.heap.size ∧ w.cell? (ad.add i) = some (.int .i64 l[i])
theorem block_add (a : Addr) (n : Nat) : (a.add n).block = a.block := by unfold Addr.add; split <;> rfl
theorem Rdl.on {w w' : World} {A : Option Addr} {l : List Int} (h : Rdl w A l) (hb : Below w.heap.size w w') : Rdl w' A l := fun i hi => by
  obtain ⟨ad, e, hlt, hc⟩ := h i hi
  exact ⟨ad, e, Nat.lt_of_lt_of_le hlt hb.size, (hb.cell (by rw [block_add]; exact hlt)).trans hc⟩
theorem bytes_add (a b : ByteArray) : (a ++ b).data.toList = a.data.toList ++ b.data.toList := by
  rw [ByteArray.data_append, Array.toList_append]
theorem bytes_size (a : ByteArray) : a.size = a.data.toList.length := by rw [Array.length_toList]; rfl
theorem bldAt_on {B b : Nat} {p : Value} {bs : List Value} {w w' : World} (h : Lib.BuilderAt 54 5 B b p bs w) (hb : Below w.heap.size w w') : Lib.BuilderAt 54 5 B b p bs w' := by
  have hlt := h.lt
  obtain ⟨hB, v, hbk, hown, hne⟩ := h
  exact ⟨hB, v, (hb.block b hlt).trans hbk, hown.kept (row := some b) ⟨hb.os, hb.tape, hb.output, hb.size, fun i hi _ => hb.block i hi⟩ (.inr hne), hne⟩
theorem bld_on {B b : Nat} {bs : List Value} {w w' : World} (h : Lib.IsBuilder 54 5 B b bs w) (hb : Below w.heap.size w w') : Lib.IsBuilder 54 5 B b bs w' :=
  h.imp (bldAt_on · hb) (bldAt_on · hb)
def SpRel (B b : Nat) (s : List UInt8) (l : List Int) (k : Nat) (w0 w : World) : Prop :=
  (Lib.IsBuilder 54 5 B b (Lib.byteCells (spacedL s (l.take k))) w) ∧ Below B w0 w ∧ B ≤ w.heap.size
set_option maxHeartbeats 1000000 in
set_option maxRecDepth 100000 in
theorem spaced (s : ByteArray) (A : Option Addr) (l : List Int) (c : Nat) (w : World) (hr : Rdl w A l) (hn : ∀ n ∈ l, isInt n) (hs : s.size + 22 * l.length ≤ 140737488355328) (hP : Pow w) :
    Calls Tryd.prog 18 #[.string s, .slice A l.length c] w fun e w' => e = .returned (.string ⟨(spacedL s.data.toList l).toArray⟩) ∧ Below w.heap.size w w' := by
  go_enter Tryd.func18, Tryd.ntmps18
  have hB0 : Lib.IsBuilder 54 5 w.heap.size w.heap.size [] (w.alloc (.cells #[.pointer none, .slice none 0 0] 54)) := Lib.fresh_isBuilder _ _ w
  go_wp2_with (go_at_call 26; refine (writeString w.heap.size w.heap.size [] s _ hB0 (by simp; omega) (by simp)).mono ?_)
  rintro e w1 ⟨rfl, hb1, hl1⟩
  have hl1' : Below w.heap.size w w1 := ((Below.refl _ w).alloc (Nat.le_refl _) _).trans hl1
  have hsz := hl1.size
  go_wp2
  go_loopw [13] (fun i wr => ∃ k : Nat, k ≤ l.length ∧ i = .int .i64 k ∧ Hid (SpRel w.heap.size w.heap.size s.data.toList l k w wr)) (fun i _ => l.length - (intOf i).toNat)
  case atStart => exact ⟨0, Nat.zero_le _, rfl, ⟨.inr (by simpa [spacedL, Lib.strCells_eq] using hb1), hl1', hl1'.size⟩⟩
  case round =>
    obtain ⟨k, hk, rfl, hR⟩ := hrel
    by_cases hlt : k < l.length
    · have hR1 := hR.out
      obtain ⟨h1, h2, h3⟩ := hR1
      obtain ⟨ad, rfl, hab, hcell⟩ := (hr.on h2) k hlt
      have hint : isInt l[k] := hn _ (List.getElem_mem hlt)
      have hPk : Pow wr := hP.on h2
      have hlk := Lib.itoa_length_le l[k] hint.1 hint.2
      have hlen := spacedL_len s.data.toList (l.take k) (fun n hm => hn n (List.mem_of_mem_take hm))
      rw [List.length_take] at hlen
      have hss : s.data.toList.length = s.size := by simp
      go_wp2_with (go_at_call 19; refine (formatInt _ _ hint hPk).mono ?_)
      rintro e w2 ⟨rfl, hb2⟩
      have h12 := bld_on h1 hb2
      have e1 : (({ data := #[32] } : ByteArray) ++ { data := (Lib.itoa l[k]).toArray }).data.toList = 32 :: Lib.itoa l[k] := by rw [bytes_add]; rfl
      have e2 : (({ data := #[32] } : ByteArray) ++ { data := (Lib.itoa l[k]).toArray }).size = 1 + (Lib.itoa l[k]).length := by rw [bytes_size, e1, List.length_cons, Nat.add_comm]
      have H1 := Lib.hid e1
      have H2 := Lib.hid e2
      have H3 := Lib.hid hss
      clear e1 e2 hss
      go_wp2_with (go_at_call 26; refine (writeString w.heap.size w.heap.size (Lib.byteCells (spacedL s.data.toList (l.take k))) _ _ h12 ?g1 ?g2).mono ?_)
      case g1 => rw [H2.out, Lib.byteCells_length]; have := H3.out; omega
      case g2 => have := hb2.size; omega
      rintro e w3 ⟨rfl, h3', hb3⟩
      have hb03 : Below w.heap.size w w3 := (h2.trans (hb2.mono h3)).trans hb3
      have hR3 : Hid (SpRel w.heap.size w.heap.size s.data.toList l (k + 1) w w3) := by
        refine ⟨.inr ?_, hb03, hb03.size⟩
        rw [List.take_succ_eq_append_getElem hlt, spacedL_snoc, Lib.byteCells_append, ← H1.out]
        exact h3'
      clear h3' h12 h1
      go_wp2
      go_roundw
      case rel => exact ⟨k + 1, by omega, by go_num, hR3⟩
      case measure => simp [intOf]; omega
    · obtain rfl : k = l.length := by omega
      have hR1 := hR.out
      obtain ⟨h1, h2, h3⟩ := hR1
      rw [List.take_length] at h1
      go_wp2_with (go_at_call 27; refine (Tryd.Builder_String_any _ _ _ _ h1 h3).mono ?_)
      rintro e w2 ⟨rfl, hb2⟩
      go_wp2
      go_ret
      exact ⟨rfl, h2.trans hb2⟩
end Go.Proofs.YthdiilcpelioaaaDoor
