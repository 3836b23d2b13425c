/- What the functions on lists of acts do. -/
import Derived.Test.YthdiilcpelioaaaDoorFactLaw
set_option linter.unusedVariables false
set_option linter.unusedSimpArgs false
namespace Go.Proofs.YthdiilcpelioaaaDoor
open Go.RowKit
structure ActR where
  k : Int
  a : Int
  b : Int
  c : Int
def ActR.enc (x : ActR) : List Value := [.int .i64 x.k, .int .i64 x.a, .int .i64 x.b, .int .i64 x.c]
def ActR.ok (x : ActR) : Prop := LedI x.k x.a x.b x.c
/-- A slice of acts that reads as l. -/
def RdA (w : World) (A : Option Addr) (l : List ActR) : Prop := ∀ (i : Nat) (h : i < l.length), ∃ b o, A = some ⟨b, o, none⟩ ∧ b < w.heap.size ∧
  w.cell? ⟨b, o + i * 4, none⟩ = some (.int .i64 l[i].k) ∧ w.cell? ⟨b, o + i * 4 + 1, none⟩ = some (.int .i64 l[i].a) ∧ w.cell? ⟨b, o + i * 4 + 2, none⟩ = some (.int .i64 l[i].b) ∧ w.cell? ⟨b, o + i * 4 + 3, none⟩ = some (.int .i64 l[i].c)
theorem RdA.on {w w' : World} {A : Option Addr} {l : List ActR} (h : RdA w A l) (hb : Below w.heap.size w w') : RdA w' A l := fun i hi => by
  obtain ⟨b, o, e, hlt, h0, h1, h2, h3⟩ := h i hi
  exact ⟨b, o, e, Nat.lt_of_lt_of_le hlt hb.size, (hb.cell hlt).trans h0, (hb.cell hlt).trans h1, (hb.cell hlt).trans h2, (hb.cell hlt).trans h3⟩
/-- A block that holds just these cells. -/
def Blk (w : World) (g : Nat) (e : TypeId) (xs : List Value) : Prop := w.heap[g]? = some (.cells xs.toArray e (0, 0))
theorem Blk.lt {w : World} {g : Nat} {e : TypeId} {xs : List Value} (h : Blk w g e xs) : g < w.heap.size := (Array.getElem?_eq_some_iff.1 h).1
theorem Blk.cell {w : World} {g : Nat} {e : TypeId} {xs : List Value} (h : Blk w g e xs) {i : Nat} {v : Value} (hi : xs[i]? = some v) : w.cell? ⟨g, i, none⟩ = some v := by
  rw [Lib.cell_of_heap h]
  simpa using hi
theorem Blk.frozen {w : World} {g : Nat} {e : TypeId} {xs : List Value} (h : Blk w g e xs) (i : Nat) : w.frozen? ⟨g, i, none⟩ = false := Lib.frozen_of_heap h i
theorem Blk.on {w w' : World} {g : Nat} {e : TypeId} {xs : List Value} (h : Blk w g e xs) (hb : Below w.heap.size w w') : Blk w' g e xs := (hb.block g h.lt).trans h
theorem Blk.drew {w : World} {g : Nat} {e : TypeId} {xs : List Value} (h : Blk w g e xs) : Blk w.drew g e xs := h
theorem Blk.set {w : World} {g : Nat} {e : TypeId} {xs : List Value} (h : Blk w g e xs) (i : Nat) (v : Value) : Blk (w.setCell ⟨g, i, none⟩ v) g e (xs.set i v) := by
  unfold Blk at h ⊢
  have hlt := (Array.getElem?_eq_some_iff.1 h).1
  simp only [World.setCell, Array.getElem?_modify, h]
  simp
theorem Blk.ofOwn {w : World} {B g n : Nat} {e : TypeId} {size : Nat} {xs : List Value} (h : w.ownsRow B e size (.slice (some ⟨g, 0, none⟩) n n) n xs) : Blk w g e xs := by
  rcases h.2 with ⟨h', _⟩ | ⟨g', cap, cur, hv, _, hg, _, _, hs, hx⟩
  · cases h'
  · simp only [Value.slice.injEq, Option.some.injEq, Addr.mk.injEq] at hv
    obtain ⟨⟨rfl, _⟩, _, rfl⟩ := hv
    have : cur.toList = xs := by rw [← hx, List.take_of_length_le (by rw [Array.length_toList, hs]; exact Nat.le_refl _)]
    unfold Blk
    rw [hg, ← this, Array.toArray_toList]
theorem actInfo : (Tryd.prog.info? 32).map (fun i => (i.zero, i.size, i.bytes)) = some (some (.agg #[.int .i64 0, .int .i64 0, .int .i64 0, .int .i64 0]), 4, 32) := by kernel_rfl
def flatA (l : List ActR) : List Value := l.flatMap ActR.enc
def zeros (n : Nat) : List Value := List.replicate n (.int .i64 0)
theorem made_zeros (n : Nat) : (madeCells #[.int .i64 0, .int .i64 0, .int .i64 0, .int .i64 0] (n * 4)).toList = zeros (n * 4) := by
  unfold zeros madeCells
  apply List.ext_getElem
  · simp
  · intro i h1 h2
    have h4 : i % 4 = 0 ∨ i % 4 = 1 ∨ i % 4 = 2 ∨ i % 4 = 3 := by omega
    simp
    rcases h4 with h | h | h | h <;> simp [h]
theorem flatA_len (l : List ActR) : (flatA l).length = l.length * 4 := by
  induction l with
  | nil => rfl
  | cons x l ih =>
    have : (flatA (x :: l)).length = 4 + (flatA l).length := by simp [flatA, ActR.enc]; omega
    rw [this, ih, List.length_cons]; omega
theorem zeros_step {n k : Nat} (h : k < n) : zeros ((n - k) * 4) = .int .i64 0 :: .int .i64 0 :: .int .i64 0 :: .int .i64 0 :: zeros ((n - (k + 1)) * 4) := by
  unfold zeros
  rw [show (n - k) * 4 = (n - (k + 1)) * 4 + 4 by omega]
  simp [List.replicate_succ]
theorem set4 (P T : List Value) (z0 z1 z2 z3 f0 f1 f2 f3 : Value) (m : Nat) (hm : P.length = m) :
    ((((P ++ z0 :: z1 :: z2 :: z3 :: T).set m f0).set (m + 1) f1).set (m + 2) f2).set (m + 3) f3 = P ++ f0 :: f1 :: f2 :: f3 :: T := by
  subst hm
  simp [List.set_append]
theorem flatA_snoc (l : List ActR) (k : Nat) (h : k < l.length) : flatA (l.take (k + 1)) = flatA (l.take k) ++ [.int .i64 l[k].k, .int .i64 l[k].a, .int .i64 l[k].b, .int .i64 l[k].c] := by
  rw [List.take_succ_eq_append_getElem h]
  simp only [flatA, List.flatMap_append, List.flatMap_cons, List.flatMap_nil, ActR.enc, List.append_nil]
theorem flatA_at (l : List ActR) (T : List Value) (i : Nat) (h : i < l.length) :
    (flatA l ++ T)[i * 4]? = some (.int .i64 l[i].k) ∧ (flatA l ++ T)[i * 4 + 1]? = some (.int .i64 l[i].a) ∧ (flatA l ++ T)[i * 4 + 2]? = some (.int .i64 l[i].b) ∧ (flatA l ++ T)[i * 4 + 3]? = some (.int .i64 l[i].c) := by
  induction l generalizing i with
  | nil => simp at h
  | cons x l ih =>
    have e : flatA (x :: l) ++ T = .int .i64 x.k :: .int .i64 x.a :: .int .i64 x.b :: .int .i64 x.c :: (flatA l ++ T) := by simp [flatA, ActR.enc]
    rw [e]
    cases i with
    | zero => simp
    | succ i =>
      have := ih i (by simpa using h)
      rw [show (i + 1) * 4 = i * 4 + 1 + 1 + 1 + 1 by omega]
      simpa using this
theorem Blk.rdA {w : World} {g : Nat} {e : TypeId} {l : List ActR} {T : List Value} (h : Blk w g e (flatA l ++ T)) : RdA w (some ⟨g, 0, none⟩) l := fun i hi => by
  obtain ⟨h0, h1, h2, h3⟩ := flatA_at l T i hi
  refine ⟨g, 0, rfl, h.lt, ?_, ?_, ?_, ?_⟩ <;> rw [Nat.zero_add]
  · exact h.cell h0
  · exact h.cell h1
  · exact h.cell h2
  · exact h.cell h3
set_option maxHeartbeats 1000000 in
theorem toActS (A : Option Addr) (l : List ActR) (c : Nat) (w : World) (hr : RdA w A l) (hl : l.length * 32 ≤ 140737488355328) :
    Calls Tryd.prog 14 #[.slice A l.length c] w fun e w' => ∃ b, e = .returned (.slice (some ⟨b, 0, none⟩) l.length l.length) ∧ RdA w' (some ⟨b, 0, none⟩) l ∧ Below w.heap.size w w' := by
  obtain ⟨i0, hi, hz0, hz1, hz2⟩ := info_parts actInfo
  go_enter Tryd.func14, Tryd.ntmps14
  go_wp2_with (at_make; refine wpList_make_full _ rfl _ _ 38 rfl w.heap.size 32 i0 _ 4 Tryd.underlying38 hi hz0 hz1 .i64 .i64 _ _ l.length rfl rfl rfl rfl ?c1 ?c2 ?c3 ?_)
  case c1 => rw [hz2]; omega
  case c2 => unfold maxLen; omega
  case c3 => exact Nat.le_refl _
  intro w1 hown hgr
  have hB := Blk.ofOwn hown
  rw [made_zeros] at hB
  have hbl : Below w.heap.size w w1 := (Below.refl _ w).grown hgr (Nat.le_refl _) (fun k hk => by cases hk)
  clear hown hgr
  go_wp2
  go_loopw [4] (fun i wr => ∃ k : Nat, k ≤ l.length ∧ i = .int .i64 k ∧ Blk wr w.heap.size 32 (flatA (l.take k) ++ zeros ((l.length - k) * 4)) ∧ Below w.heap.size w wr) (fun i _ => l.length - (intOf i).toNat)
  case atStart => exact ⟨0, Nat.zero_le _, rfl, by simpa [flatA] using hB, hbl⟩
  case round =>
    obtain ⟨k, hk, rfl, hR, hbr⟩ := hrel
    by_cases hlt : k < l.length
    · obtain ⟨b, o, rfl, hab, c0, c1, c2, c3⟩ := (hr.on hbr) k hlt
      have hlen : (flatA (l.take k)).length = k * 4 := by rw [flatA_len, List.length_take, Nat.min_eq_left hk]
      rw [zeros_step hlt] at hR
      go_wp2_with (go_at_call 10; refine (toAct _ _ _ _ _).mono ?_)
      rintro e w2 ⟨rfl, hb2⟩
      have hR2 := hR.on hb2
      have d0 : w2.cell? ⟨w.heap.size, k * 4, none⟩ = some (.int .i64 0) := hR2.cell (by rw [← hlen]; simp)
      have d1 : w2.cell? ⟨w.heap.size, k * 4 + 1, none⟩ = some (.int .i64 0) := hR2.cell (by rw [← hlen]; simp)
      have d2 : w2.cell? ⟨w.heap.size, k * 4 + 2, none⟩ = some (.int .i64 0) := hR2.cell (by rw [← hlen]; simp)
      have d3 : w2.cell? ⟨w.heap.size, k * 4 + 3, none⟩ = some (.int .i64 0) := hR2.cell (by rw [← hlen]; simp)
      have f0 := hR2.frozen (k * 4)
      have f1 := hR2.frozen (k * 4 + 1)
      have f2 := hR2.frozen (k * 4 + 2)
      have f3 := hR2.frozen (k * 4 + 3)
      have H2 := Lib.hid hR2
      have HL := Lib.hid hlen
      have HR := Lib.hid hR
      clear hR hR2 hlen
      unfold led
      go_wp2
      go_roundw
      case rel =>
        have S := (((H2.out.set (k * 4) (.int .i64 l[k].k)).set (k * 4 + 1) (.int .i64 l[k].a)).set (k * 4 + 2) (.int .i64 l[k].b)).set (k * 4 + 3) (.int .i64 l[k].c)
        rw [set4 _ _ _ _ _ _ _ _ _ _ _ HL.out] at S
        refine ⟨k + 1, by omega, by go_num, ?_, ?_⟩
        · rw [flatA_snoc l k hlt, List.append_assoc]
          exact S
        · have hw2 : Below w.heap.size w w2 := hbr.trans (hb2.mono hbr.size)
          exact (((hw2.setCell (p := ⟨w.heap.size, k * 4, none⟩) (Nat.le_refl _) _).setCell (p := ⟨w.heap.size, k * 4 + 1, none⟩) (Nat.le_refl _) _).setCell (p := ⟨w.heap.size, k * 4 + 2, none⟩) (Nat.le_refl _) _).setCell (p := ⟨w.heap.size, k * 4 + 3, none⟩) (Nat.le_refl _) _
      case measure => simp [intOf]; omega
    · have hkl : k = l.length := by omega
      go_wp2
      go_ret
      refine ⟨w.heap.size, rfl, ?_, hbr⟩
      rw [hkl, List.take_length] at hR
      exact hR.rdA
end Go.Proofs.YthdiilcpelioaaaDoor
