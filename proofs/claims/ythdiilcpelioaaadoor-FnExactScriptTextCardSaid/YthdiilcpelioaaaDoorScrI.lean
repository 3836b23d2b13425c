/- What the program's ScriptText returns. Condition: numbers of int's range, the table internal/strconv.uint64pow10 holds Go's powers of ten. -/
import Derived.Test.YthdiilcpelioaaaDoorScrS
set_option linter.unusedVariables false
set_option linter.unusedSimpArgs false
namespace Go.Proofs.YthdiilcpelioaaaDoor
open Go.RowKit
theorem implActYes (x : ActR) (hx : x.ok) (hf : x.fine = true) (w : World) (hP : Pow w) : Calls Tryd.prog 11 #[led x.k x.a x.b x.c] w fun e w' => e = .returned (.tuple #[.string ⟨x.txt.toArray⟩, .bool true]) ∧ Below w.heap.size w w' := by
  refine (implFormatAct x.k x.a x.b x.c w hx hP).mono ?_
  rintro e w' ⟨rfl, h⟩
  exact ⟨by rw [actV, if_pos (show actOk x.k x.a x.b x.c = true from hf)]; rfl, h⟩
theorem implActNo (x : ActR) (hx : x.ok) (hf : x.fine = false) (w : World) (hP : Pow w) : Calls Tryd.prog 11 #[led x.k x.a x.b x.c] w fun e w' => e = .returned (.tuple #[.string ⟨#[]⟩, .bool false]) ∧ Below w.heap.size w w' := by
  refine (implFormatAct x.k x.a x.b x.c w hx hP).mono ?_
  rintro e w' ⟨rfl, h⟩
  exact ⟨by rw [actV, if_neg (by rw [show actOk x.k x.a x.b x.c = false from hf]; simp)], h⟩
attribute [local go_sem ↓] cat_small
set_option maxHeartbeats 2000000 in
set_option maxRecDepth 100000 in
theorem implScriptMany (A : Option Addr) (l : List ActR) (c : Nat) (w : World) (h30 : 30 < l.length) :
    Calls Tryd.prog 15 #[.slice A l.length c] w fun e w' => e = .returned (.tuple #[.string ⟨#[]⟩, .bool false]) ∧ Below w.heap.size w w' := by
  go_enter Tryd.func15, Tryd.ntmps15
  have hbig : decide ((30 : Int) < (l.length : Int)) = true := decide_eq_true (by omega)
  go_wp2
  go_ret2
  exact ⟨rfl, Below.refl _ _⟩
set_option maxHeartbeats 2000000 in
set_option maxRecDepth 100000 in
theorem implScriptFew (A : Option Addr) (l : List ActR) (c : Nat) (w : World) (hr : RdA w A l) (ho : ∀ x ∈ l, x.ok) (h30 : l.length ≤ 30) (hP : Pow w) :
    Calls Tryd.prog 15 #[.slice A l.length c] w fun e w' => e = .returned (.tuple #[.string (scrS l), .bool (scrOk l)]) ∧ Below w.heap.size w w' := by
  go_enter Tryd.func15, Tryd.ntmps15
  have hfewI : decide ((30 : Int) < (l.length : Int)) = false := decide_eq_false (by omega)
  go_wp2
  go_loopw [4, 14] (fun v i wr => ∃ k : Nat, k ≤ l.length ∧ i = .int .i64 k ∧ allOk (l.take k) = true ∧ v = .string ⟨(scrL (l.take k)).toArray⟩ ∧ Below w.heap.size w wr) (fun _ i _ => l.length - (intOf i).toNat)
  case atStart => exact ⟨0, Nat.zero_le _, rfl, rfl, rfl, Below.refl _ _⟩
  case round =>
    obtain ⟨k, hk, rfl, hall, rfl, hbr⟩ := hrel
    by_cases hlt : k < l.length
    · obtain ⟨b, o, rfl, hab, c0, c1, c2, c3⟩ := (hr.on hbr) k hlt
      have hx := ho l[k] (List.getElem_mem hlt)
      have hA := Lib.hid hall
      have hP1 : Pow (wr.alloc (.cells #[.int .i64 l[k].k, .int .i64 l[k].a, .int .i64 l[k].b, .int .i64 l[k].c] 32)) := Pow.on hP (hbr.alloc hbr.size _)
      have hB1 : Below w.heap.size w (wr.alloc (.cells #[.int .i64 l[k].k, .int .i64 l[k].a, .int .i64 l[k].b, .int .i64 l[k].c] 32)) := hbr.alloc hbr.size _
      have hT : (l.take k).length = k := by rw [List.length_take, Nat.min_eq_left hk]
      have hL2 := scrL_len (l.take k) (fun x hm => ho x (List.mem_of_mem_take hm))
      rw [hT] at hL2
      have hL1 := txt_len l[k] hx
      have hs0 : Small (scrL (l.take k)) := by unfold Small; omega
      have hs1 : Small l[k].txt := by unfold Small; omega
      have hs2 : Small [10] := by simp [Small]
      have hs3 : Small (l[k].txt ++ [10]) := by simp only [Small, List.length_append, List.length_cons, List.length_nil]; omega
      have hS := Lib.hid hB1.size
      clear hall hT hL1 hL2
      cases hf : l[k].fine
      · go_wp2_with (go_at_call 11; refine (implActNo l[k] hx hf _ hP1).mono ?_; rintro e w2 ⟨rfl, hb2⟩)
        go_ret2
        have hno := allOk_at hlt hf
        exact ⟨by simp [scrS, scrOk, hno], hB1.trans (hb2.mono hS.out)⟩
      · go_wp2_with (go_at_call 11; refine (implActYes l[k] hx hf _ hP1).mono ?_; rintro e w2 ⟨rfl, hb2⟩)
        have hA3 : Hid (allOk (l.take (k + 1)) = true) := Lib.hid (by rw [allOk_snoc l k hlt, hA.out, hf]; rfl)
        go_roundw
        case rel => exact ⟨k + 1, by omega, by go_num, hA3.out, by rw [scrL_snoc l k hlt], hB1.trans (hb2.mono hS.out)⟩
        case measure => simp [intOf]; omega
    · have hkl : k = l.length := by omega
      rw [hkl, List.take_length] at hall
      go_wp2
      go_ret2
      refine ⟨?_, hbr⟩
      have h3 : scrOk l = true := by simp [scrOk, h30, hall]
      simp [scrS, h3, hkl]
end Go.Proofs.YthdiilcpelioaaaDoor
