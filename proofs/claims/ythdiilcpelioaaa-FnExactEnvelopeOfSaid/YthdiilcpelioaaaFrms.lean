/- Slices of frames: the copies that the laws make, the comparisons of equal ones. Condition: as many elements as memory takes. -/
import Derived.Test.YthdiilcpelioaaaFrm
set_option linter.unusedVariables false
set_option linter.unusedSimpArgs false
namespace Go.Proofs.Ythdiilcpelioaaa
open Go.RowKit
/-- These cells stand for the frame. -/
def encF (w : World) (f : FrameR) (cs : List Value) : Prop := ∃ A1 c1 A2 c2, cs = [.int .i64 f.step, .int .i64 f.roots, .slice A1 f.leaves.length c1, .int .i64 f.total, .int .i64 f.tracer, .int .i64 f.quantum, .slice A2 f.code.length c2] ∧ RdId w A1 f.leaves ∧ RdI w A2 f.code
theorem encF.on {w w' : World} {f : FrameR} {cs : List Value} (h : encF w f cs) (hb : Below w.heap.size w w') : encF w' f cs := by
  obtain ⟨A1, c1, A2, c2, e, h1, h2⟩ := h
  exact ⟨A1, c1, A2, c2, e, h1.on hb, h2.on hb⟩
theorem rdF_of {w : World} {A : Option Addr} {l : List FrameR} (h : Rds 7 encF w A l) : RdF w A l := fun i hi => by
  obtain ⟨b, o, cs, e, hlt, hn, ⟨A1, c1, A2, c2, rfl, h1, h2⟩, hc⟩ := h i hi
  exact ⟨b, o, A1, c1, A2, c2, e, hlt, hc 0 _ rfl, hc 1 _ rfl, hc 2 _ rfl, hc 3 _ rfl, hc 4 _ rfl, hc 5 _ rfl, hc 6 _ rfl, h1, h2⟩
/-- As many frames as memory takes. -/
def fits (l : List FrameR) : Prop := l.length * 88 ≤ 140737488355328 ∧ ∀ f ∈ l, f.leaves.length * 24 ≤ 140737488355328 ∧ f.code.length * 8 ≤ 140737488355328
theorem frameInfo : (Try.prog.info? 75).map (fun i => (i.zero, i.size, i.bytes)) = some (some (.agg #[.int .i64 0, .int .i64 0, .slice none 0 0, .int .i64 0, .int .i64 0, .int .i64 0, .slice none 0 0]), 7, 88) := by kernel_rfl
def fzero : List Value := [.int .i64 0, .int .i64 0, .slice none 0 0, .int .i64 0, .int .i64 0, .int .i64 0, .slice none 0 0]
def FrameR.cs (f : FrameR) (g h : Nat) : List Value := [.int .i64 f.step, .int .i64 f.roots, .slice (some ⟨g, 0, none⟩) f.leaves.length f.leaves.length, .int .i64 f.total, .int .i64 f.tracer, .int .i64 f.quantum, .slice (some ⟨h, 0, none⟩) f.code.length f.code.length]
theorem FrameR.one (f : FrameR) (g h : Nat) : (f.cs g h).toArray.all (·.oneCell') = true := by simp [FrameR.cs, Value.oneCell']
theorem store_frame {ops : Array Oper} {rest : List Oper} {op : Oper} {a : Act} {w : World} {Q : Exit → Act → World → Prop} (hgd : op.guard = none) (x y : Operand) (ho : op.op = .store 75 x y)
    (b o : Nat) (cs : List Value) (hx : a.eval x = .pointer (some ⟨b, o, none⟩)) (hy : a.eval y = .agg cs.toArray) (ht : w.there b o 7) (h1 : cs.toArray.all (·.oneCell') = true) (hn : cs.length = 7 := by rfl)
    (h : wpList Try.prog ops Q rest (a.put op.dst undef) (w.setCells b o cs)) : wpList Try.prog ops Q (op :: rest) a w :=
  wpList_store_mid hgd _ x y ho b o cs.toArray hx hy (by rw [List.size_toArray, hn]; exact ht) (by rw [List.size_toArray, hn]; kernel_rfl) h1 h
/-- These cells are a frame of its own blocks, none of which is g. -/
def OwnF (g : Nat) (w : World) (f : FrameR) (cs : List Value) : Prop := ∃ g1 g2, cs = f.cs g1 g2 ∧ g ≠ g1 ∧ g ≠ g2 ∧ Blk w g1 101 (f.leaves.map IdR.enc).flatten ∧ Blk w g2 3 (f.code.map intEnc).flatten
theorem OwnF.enc {g : Nat} {w : World} {f : FrameR} {cs : List Value} (h : OwnF g w f cs) : encF w f cs := by
  obtain ⟨g1, g2, rfl, _, _, h1, h2⟩ := h
  rw [← List.append_nil (List.map IdR.enc _).flatten] at h1
  rw [← List.append_nil (List.map intEnc _).flatten] at h2
  exact ⟨_, _, _, _, rfl, h1.rdId, h2.rdI⟩
def Part (l : List FrameR) (k : Nat) (w : World) (g : Nat) (css : List (List Value)) : Prop := css.length = k ∧ (∀ c ∈ css, c.length = 7) ∧ (∀ (i : Nat) (h : i < l.length) (h' : i < css.length), OwnF g w l[i] css[i]) ∧ Blk w g 75 (css.flatten ++ (List.replicate (l.length - k) fzero).flatten)
theorem Part.on {l : List FrameR} {k : Nat} {w w' : World} {g : Nat} {css : List (List Value)} (h : Part l k w g css) (hb : Below w.heap.size w w') : Part l k w' g css :=
  ⟨h.1, h.2.1, fun i h1 h2 => by
    obtain ⟨g1, g2, e, n1, n2, b1, b2⟩ := h.2.2.1 i h1 h2
    exact ⟨g1, g2, e, n1, n2, b1.on hb, b2.on hb⟩, h.2.2.2.on hb⟩
theorem Part.next {l : List FrameR} {k : Nat} {w : World} {g g1 g2 : Nat} {css : List (List Value)} (h : Part l k w g css) (hk : k < l.length) (n1 : g ≠ g1) (n2 : g ≠ g2) (h1 : Blk w g1 101 (l[k].leaves.map IdR.enc).flatten) (h2 : Blk w g2 3 (l[k].code.map intEnc).flatten) :
    Part l (k + 1) (World.setCells w g (k * 7) (l[k].cs g1 g2)) g (css ++ [l[k].cs g1 g2]) := by
  obtain ⟨p1, p2, p3, p4⟩ := h
  refine ⟨by simp [p1], ?_, ?_, ?_⟩
  · intro c hc
    rcases List.mem_append.1 hc with hc | hc
    · exact p2 c hc
    · rw [List.mem_singleton.1 hc]; rfl
  · intro i hi hi'
    by_cases hlt : i < css.length
    · rw [List.getElem_append_left hlt]
      obtain ⟨u1, u2, e, m1, m2, b1, b2⟩ := p3 i hi hlt
      exact ⟨u1, u2, e, m1, m2, b1.others m1 _ _, b2.others m2 _ _⟩
    · have : i = k := by simp at hi'; omega
      subst this
      rw [List.getElem_append_right (by omega)]
      simp only [p1, Nat.sub_self, List.getElem_singleton]
      exact ⟨g1, g2, rfl, n1, n2, h1.others n1 _ _, h2.others n2 _ _⟩
  · exact p4.fill (f := l[k].cs g1 g2) hk rfl p2 p1 rfl
set_option maxRecDepth 100000 in
set_option maxHeartbeats 2000000 in
theorem toFrameS (A : Option Addr) (l : List FrameR) (c : Nat) (w : World) (hr : RdF w A l) (hl : fits l) :
    Calls Try.prog 14 #[.slice A l.length c] w fun e w' => ∃ g, e = .returned (own0 g l.length) ∧ w.heap.size ≤ g ∧ RdF w' (some ⟨g, 0, none⟩) l ∧ Below w.heap.size w w' := by
  obtain ⟨hl1, hl2⟩ := hl
  have hL2 := Lib.hid hl2
  clear hl2
  obtain ⟨i0, hi, hz0, hz1, hz2⟩ := info_parts frameInfo
  go_enter Try.func14, Try.ntmps14
  go_wp2_with (at_make; refine wpList_make_full _ rfl _ _ 41 rfl w.heap.size 75 i0 _ 7 Try.underlying41 hi hz0 hz1 .i64 .i64 _ _ l.length rfl rfl rfl rfl ?c1 ?c2 ?c3 ?_)
  case c1 => rw [hz2]; omega
  case c2 => unfold maxLen; omega
  case c3 => exact Nat.le_refl _
  intro w1 hown hgr
  have hB := Blk.ofOwn hown
  rw [show (madeCells #[.int .i64 0, .int .i64 0, .slice none 0 0, .int .i64 0, .int .i64 0, .int .i64 0, .slice none 0 0] (l.length * 7)).toList = (List.replicate l.length fzero).flatten from made_flat fzero l.length (by decide)] at hB
  have hbl : Below w.heap.size w w1 := (Below.refl _ w).grown hgr (Nat.le_refl _) (fun k hk => by cases hk)
  clear hown hgr
  go_wp2
  go_loopw [4] (fun i wr => ∃ (k : Nat) (css : List (List Value)), k ≤ l.length ∧ i = .int .i64 k ∧ Hid (Part l k wr w.heap.size css) ∧ Below w.heap.size w wr) (fun i _ => l.length - (intOf i).toNat)
  case atStart => exact ⟨0, [], Nat.zero_le _, rfl, Lib.hid ⟨rfl, by simp, fun i h1 h2 => by simp at h2, by simpa using hB⟩, hbl⟩
  case round =>
    obtain ⟨k, css, hk, rfl, hP, hbr⟩ := hrel
    by_cases hlt : k < l.length
    · obtain ⟨b, o, A1, c1, A2, c2, rfl, hab, x0, x1, x2, x3, x4, x5, x6, x7, x8⟩ := (hr.on hbr) k hlt
      obtain ⟨hlk, hck⟩ := hL2.out l[k] (List.getElem_mem hlt)
      go_wp2_with (go_at_call 39; refine (toFrame l[k] A1 A2 c1 c2 _ x7 x8 hlk hck).mono ?_)
      rintro e w2 ⟨g1, g2, rfl, hg1, hg2, hB1, hB2, hb2⟩
      have hbw := Lib.hid (hbr.trans (hb2.mono hbr.size))
      have hP2 := hP.out.on hb2
      obtain ⟨p1, p2, p3, p4⟩ := hP2
      have hgb : w.heap.size < wr.heap.size := hP.out.2.2.2.lt
      have hth : w2.there w.heap.size (k * 7) 7 := p4.there _ _ (by rw [List.length_append, flat_len p2, p1, flat_len (n := 7) (fun c hc => by rw [List.eq_of_mem_replicate hc]; rfl), List.length_replicate]; omega)
      have hP' := Lib.hid (show Part l k w2 w.heap.size css from ⟨p1, p2, p3, p4⟩)
      have hB1' := Lib.hid hB1
      have hB2' := Lib.hid hB2
      clear p1 p2 p3 p4 hB1 hB2
      unfold FrameR.v
      go_wp2_with ((with_reducible show Go.wpList _ _ _ (Oper.mk none (.store 75 (.tmp 21) (.tmp 20)) _ _ _ _ :: _) _ _); go_loud (refine store_frame rfl (.tmp 21) (.tmp 20) rfl w.heap.size (k * 7) (l[k].cs g1 g2) rfl rfl hth (FrameR.one l[k] g1 g2) rfl ?_))
      go_roundw
      case rel =>
        have hn1 : w.heap.size ≠ g1 := by omega
        have hn2 : w.heap.size ≠ g2 := by omega
        exact ⟨k + 1, css ++ [l[k].cs g1 g2], by omega, by go_num, Lib.hid (hP'.out.next hlt hn1 hn2 hB1'.out hB2'.out), below_sets (Nat.le_refl _) (l[k].cs g1 g2) _ hbw.out⟩
      case measure => simp [intOf]; omega
    · have hkl : k = l.length := by omega
      go_wp2
      go_ret
      obtain ⟨p1, p2, p3, p4⟩ := hP.out
      exact ⟨w.heap.size, rfl, Nat.le_refl _, rdF_of (p4.rds (by omega) p2 (fun i h1 h2 => (p3 i h1 h2).enc)), hbr⟩
end Go.Proofs.Ythdiilcpelioaaa
