/- What the reference's ScriptText returns. Condition: numbers of int's range. -/
import Derived.Test.YthdiilcpelioaaaDoorScrEq
import Derived.Laws.BytesArg
import Derived.Lib.SmallJoins
set_option linter.unusedVariables false
set_option linter.unusedSimpArgs false
namespace Go.Proofs.YthdiilcpelioaaaDoor
open Go.RowKit
def ActR.fine (x : ActR) : Bool := actOk x.k x.a x.b x.c
def ActR.txt (x : ActR) : List UInt8 := actL x.k x.a x.b x.c
def scrL (l : List ActR) : List UInt8 := l.flatMap fun x => x.txt ++ [10]
def allOk (l : List ActR) : Bool := l.all ActR.fine
def scrOk (l : List ActR) : Bool := decide (l.length ≤ 30) && allOk l
def scrS (l : List ActR) : ByteArray := if scrOk l = true then ⟨(scrL l).toArray⟩ else ⟨#[]⟩
theorem scrL_snoc (l : List ActR) (k : Nat) (h : k < l.length) : scrL (l.take (k + 1)) = scrL (l.take k) ++ (l[k].txt ++ [10]) := by
  rw [List.take_succ_eq_append_getElem h]
  simp only [scrL, List.flatMap_append, List.flatMap_cons, List.flatMap_nil, List.append_nil]
theorem allOk_snoc (l : List ActR) (k : Nat) (h : k < l.length) : allOk (l.take (k + 1)) = (allOk (l.take k) && l[k].fine) := by
  rw [List.take_succ_eq_append_getElem h]
  simp only [allOk, List.all_append, List.all_cons, List.all_nil, Bool.and_true]
theorem allOk_at {l : List ActR} {k : Nat} (h : k < l.length) (hf : l[k].fine = false) : allOk l = false := by
  unfold allOk
  rw [List.all_eq_false]
  exact ⟨l[k], List.getElem_mem h, by simp [hf]⟩
theorem txt_len (x : ActR) (hx : x.ok) : x.txt.length ≤ 71 := by
  have h5 := actName_len x.k.toNat
  unfold ActR.txt actL
  have key := spacedL_len (actName x.k.toNat) (if many x.k = true then [x.a, x.b, x.c] else [x.a]) (by
    intro n hn
    split at hn <;> simp at hn
    · rcases hn with rfl | rfl | rfl
      · exact hx.hb
      · exact hx.hc
      · exact hx.hd
    · subst hn; exact hx.hb)
  have : (if many x.k = true then [x.a, x.b, x.c] else [x.a]).length ≤ 3 := by split <;> simp
  omega
theorem scrL_len (l : List ActR) (h : ∀ x ∈ l, x.ok) : (scrL l).length ≤ l.length * 72 := by
  induction l with
  | nil => simp [scrL]
  | cons x l ih =>
    have h1 := ih (fun y hy => h y (by simp [hy]))
    have h2 := txt_len x (h x (by simp))
    have : (scrL (x :: l)).length = x.txt.length + 1 + (scrL l).length := by simp [scrL]; omega
    rw [this, List.length_cons]; omega
theorem specActYes (x : ActR) (hx : x.ok) (hf : x.fine = true) (w : World) : Calls Tryd.prog 9 #[led x.k x.a x.b x.c] w fun e w' => e = .returned (.tuple #[.string ⟨x.txt.toArray⟩, .bool true]) ∧ Below w.heap.size w w' := by
  refine (specFormatAct x.k x.a x.b x.c w hx).mono ?_
  rintro e w' ⟨rfl, h⟩
  exact ⟨by rw [actV, if_pos (show actOk x.k x.a x.b x.c = true from hf)]; rfl, h⟩
theorem specActNo (x : ActR) (hx : x.ok) (hf : x.fine = false) (w : World) : Calls Tryd.prog 9 #[led x.k x.a x.b x.c] w fun e w' => e = .returned (.tuple #[.string ⟨#[]⟩, .bool false]) ∧ Below w.heap.size w w' := by
  refine (specFormatAct x.k x.a x.b x.c w hx).mono ?_
  rintro e w' ⟨rfl, h⟩
  exact ⟨by rw [actV, if_neg (by rw [show actOk x.k x.a x.b x.c = false from hf]; simp)], h⟩
theorem toStr {w : World} {B : Nat} {v : Value} {L : List UInt8} (h : w.ownsRow B 5 1 v L.length (Lib.byteCells L)) : (convert 48 9 v).run Tryd.prog w = .ok (.string ⟨L.toArray⟩) w := by
  rcases h.2 with ⟨rfl, h0⟩ | ⟨g, cap, cur, rfl, _, hg, hn, _, hs, hx⟩
  · rw [run_convert_bytes_nil w 48 5 Tryd.underlying48 Tryd.underlying5 0 0 9 Tryd.underlying9]
    rw [List.eq_nil_of_length_eq_zero h0]
    rfl
  · rw [run_convert_bytes_arg w 48 5 Tryd.underlying48 Tryd.underlying5 g 0 L.length cap (L.map fun b => (b.toNat : Int)) (by simp) (fun i hi => ?_) 9 Tryd.underlying9]
    · congr 2
      apply ByteArray.ext
      show ((L.map fun b => (b.toNat : Int)).map fun n => UInt8.ofNat n.toNat).toArray = L.toArray
      rw [List.map_map]
      congr 1
      conv => rhs; rw [← List.map_id L]
      apply List.map_congr_left
      intro b _
      simp
    · rw [Nat.zero_add, Lib.cell_of_heap hg]
      have : (cur.toList.take (L.length * 1))[i]? = (Lib.byteCells L)[i]? := by rw [hx]
      rw [List.getElem?_take_of_lt (by omega)] at this
      rw [← Array.getElem?_toList, this]
      simp [Lib.byteCells, hi]
theorem own_on {w w' : World} {B k n : Nat} {e : TypeId} {v : Value} {xs : List Value} (h : w.ownsRow B e k v n xs) (hb : Below w.heap.size w w') : w'.ownsRow B e k v n xs :=
  h.kept (row := none) ⟨hb.os, hb.tape, hb.output, hb.size, fun i hi _ => hb.block i hi⟩ (Classical.em _)
attribute [local go_sem ↓] cat_small
set_option maxHeartbeats 2000000 in
set_option maxRecDepth 100000 in
/-- More than thirty acts. -/
theorem specScriptMany (A : Option Addr) (l : List ActR) (c : Nat) (w : World) (hr : RdA w A l) (ho : ∀ x ∈ l, x.ok) (h30 : 30 < l.length) :
    Calls Tryd.prog 13 #[.slice A l.length c] w fun e w' => e = .returned (.tuple #[.string ⟨#[]⟩, .bool false]) ∧ Below w.heap.size w w' := by
  go_enter Tryd.func13, Tryd.ntmps13
  have hpos : 0 < l.length := by omega
  have hbig : decide ((30 : Int) < (l.length : Int)) = true := decide_eq_true (by omega)
  go_wp2
  go_loopw [5] (fun i wr => i = .int .i64 0 ∧ Below w.heap.size w wr) (fun i _ => 0)
  case atStart => exact ⟨rfl, below_new w _⟩
  case round =>
    obtain ⟨rfl, hbr⟩ := hrel
    obtain ⟨b, o, rfl, hab, c0, c1, c2, c3⟩ := (hr.on hbr) 0 hpos
    simp only [Nat.zero_mul, Nat.add_zero] at c0 c1 c2 c3
    have hx := ho l[0] (List.getElem_mem hpos)
    cases hf : l[0].fine
    · go_wp2_with (go_at_call 9; refine (specActNo l[0] hx hf _).mono ?_; rintro e w2 ⟨rfl, hb2⟩)
      go_ret2
      exact ⟨rfl, hbr.trans (hb2.mono hbr.size)⟩
    · go_wp2_with (go_at_call 9; refine (specActYes l[0] hx hf _).mono ?_; rintro e w2 ⟨rfl, hb2⟩)
      go_ret2
      exact ⟨rfl, hbr.trans (hb2.mono hbr.size)⟩
set_option maxHeartbeats 2000000 in
set_option maxRecDepth 100000 in
theorem specScriptFew (A : Option Addr) (l : List ActR) (c : Nat) (w : World) (hr : RdA w A l) (ho : ∀ x ∈ l, x.ok) (h30 : l.length ≤ 30) :
    Calls Tryd.prog 13 #[.slice A l.length c] w fun e w' => e = .returned (.tuple #[.string (scrS l), .bool (scrOk l)]) ∧ Below w.heap.size w w' := by
  obtain ⟨i0, hi, hz0, hz1, hz2⟩ := info_parts byteInfo
  go_enter Tryd.func13, Tryd.ntmps13
  have hown0 : (w.alloc (.cells #[] 5)).ownsRow w.heap.size 5 1 (.slice (some ⟨w.heap.size, 0, none⟩) 0 0) 0 [] := World.ownsRow_made w #[] 0 (Nat.le_refl _) (by unfold maxLen; omega) (by simp)
  have hfewI : decide ((30 : Int) < (l.length : Int)) = false := decide_eq_false (by omega)
  go_wp2
  go_loopw [4, 5] (fun v i wr => ∃ k : Nat, k ≤ l.length ∧ i = .int .i64 k ∧ allOk (l.take k) = true ∧ wr.ownsRow w.heap.size 5 1 v (scrL (l.take k)).length (Lib.byteCells (scrL (l.take k))) ∧ Below w.heap.size w wr) (fun _ i _ => l.length - (intOf i).toNat)
  case atStart => exact ⟨0, Nat.zero_le _, rfl, rfl, by simpa [scrL, Lib.byteCells] using hown0, below_new w _⟩
  case round =>
    obtain ⟨k, hk, rfl, hall, hown, hbr⟩ := hrel
    by_cases hlt : k < l.length
    · obtain ⟨b, o, rfl, hab, c0, c1, c2, c3⟩ := (hr.on hbr) k hlt
      have hx := ho l[k] (List.getElem_mem hlt)
      have hO := Lib.hid hown
      have hA := Lib.hid hall
      clear hown hall
      cases hf : l[k].fine
      · go_wp2_with (go_at_call 9; refine (specActNo l[k] hx hf _).mono ?_; rintro e w2 ⟨rfl, hb2⟩)
        go_ret2
        have hno := allOk_at hlt hf
        exact ⟨by simp [scrS, scrOk, hno], hbr.trans (hb2.mono hbr.size)⟩
      · have hs1 : Small l[k].txt := Nat.le_trans (txt_len l[k] hx) (by omega)
        have hs2 : Small [10] := by simp [Small]
        have hL1 := Lib.hid (txt_len l[k] hx)
        have hL2 := Lib.hid (scrL_len (l.take k) (fun x hm => ho x (List.mem_of_mem_take hm)))
        have hT : Hid ((l.take k).length = k) := Lib.hid (by rw [List.length_take, Nat.min_eq_left hk])
        go_wp2_with (first
          | (go_at_call 9; refine (specActYes l[k] hx hf _).mono ?_; rintro e w2 ⟨rfl, hb2⟩; have hO2 := Lib.hid (own_on hO.out hb2))
          | (at_builtin; refine Lib.wpList_append_own_string _ rfl _ _ 48 9 rfl w.heap.size 5 i0 Tryd.underlying48 Tryd.underlying9 hi hz0 hz1 hz2 _ _ _ rfl hO2.out ⟨(l[k].txt ++ [10]).toArray⟩ rfl ?c3 ?c4 ?c5 ?_))
        case c3 =>
          have h1 := hL1.out; have h2 := hL2.out; rw [hT.out] at h2
          simp [ByteArray.size, maxLen]; omega
        case c4 =>
          have h1 := hL1.out; have h2 := hL2.out; rw [hT.out] at h2
          simp [ByteArray.size]; omega
        case c5 => exact Nat.le_trans hbr.size hb2.size
        intro v' w3 hown' hgrow _
        have hw3 : Below w.heap.size w w3 := (hbr.trans (hb2.mono hbr.size)).grown hgrow (Nat.le_trans hbr.size hb2.size) (fun k hk => (hO2.out.lt k hk).1)
        have hO3 : Hid (w3.ownsRow w.heap.size 5 1 v' (scrL (l.take (k + 1))).length (Lib.byteCells (scrL (l.take (k + 1))))) := by
          refine Lib.hid ?_
          rw [scrL_snoc l k hlt, List.length_append, Lib.byteCells_append, ← Lib.strCells_toArray (l[k].txt ++ [10]), List.length_append]
          exact hown'
        have hA3 : Hid (allOk (l.take (k + 1)) = true) := Lib.hid (by rw [allOk_snoc l k hlt, hA.out, hf]; rfl)
        clear hown' hgrow hO2 hO hL1 hL2 hT
        go_wp2
        go_roundw
        case rel => exact ⟨k + 1, by omega, by go_num, hA3.out, hO3.out, hw3⟩
        case measure => simp [intOf]; omega
    · have hkl : k = l.length := by omega
      rw [hkl, List.take_length] at hown hall
      go_wp2
      rw [toStr hown]
      simp only [Result.andThen]
      rw [Oper.upon_value]
      go_wp2
      go_ret2
      refine ⟨?_, hbr⟩
      have h3 : scrOk l = true := by simp [scrOk, h30, hall]
      simp [scrS, h3]
end Go.Proofs.YthdiilcpelioaaaDoor
