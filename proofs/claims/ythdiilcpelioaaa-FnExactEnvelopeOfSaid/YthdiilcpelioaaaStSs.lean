/- Slices of states: the copies that the laws make, the comparisons of equal ones. Condition: as many elements as memory takes. -/
import Derived.Test.YthdiilcpelioaaaStC
set_option linter.unusedVariables false
set_option linter.unusedSimpArgs false
namespace Go.Proofs.Ythdiilcpelioaaa
open Go.RowKit
/-- As many states as memory takes. -/
def lightAll (l : List StateR) : Prop := l.length * 104 ≤ 140737488355328 ∧ ∀ s ∈ l, s.light
theorem stateInfo : (Try.prog.info? 33).map (fun i => (i.zero, i.size, i.bytes)) = some (some (.agg #[.int .i64 0, .slice none 0 0, .slice none 0 0, .slice none 0 0, .slice none 0 0]), 5, 104) := by kernel_rfl
def szero : List Value := [.int .i64 0, .slice none 0 0, .slice none 0 0, .slice none 0 0, .slice none 0 0]
theorem store_state {ops : Array Oper} {rest : List Oper} {op : Oper} {a : Act} {w : World} {Q : Exit → Act → World → Prop} (hgd : op.guard = none) (x y : Operand) (ho : op.op = .store 33 x y)
    (b o : Nat) (cs : List Value) (hx : a.eval x = .pointer (some ⟨b, o, none⟩)) (hy : a.eval y = .agg cs.toArray) (ht : w.there b o 5) (h1 : cs.toArray.all (·.oneCell') = true) (hn : cs.length = 5)
    (h : wpList Try.prog ops Q rest (a.put op.dst undef) (w.setCells b o cs)) : wpList Try.prog ops Q (op :: rest) a w :=
  wpList_store_mid hgd _ x y ho b o cs.toArray hx hy (by rw [List.size_toArray, hn]; exact ht) (by rw [List.size_toArray, hn]; kernel_rfl) h1 h
theorem StateR.one (s : StateR) (g1 g2 g3 g4 : Nat) : (s.own g1 g2 g3 g4).toArray.all (·.oneCell') = true := by simp [StateR.own, own0, Value.oneCell']
/-- These cells are a state in blocks of its own, from B on, none of which is g. -/
def OwnS (B g : Nat) (w : World) (s : StateR) (cs : List Value) : Prop := ∃ g1 g2 g3 g4, cs = s.own g1 g2 g3 g4 ∧ (B ≤ g1 ∧ B ≤ g2 ∧ B ≤ g3 ∧ B ≤ g4) ∧ (g ≠ g1 ∧ g ≠ g2 ∧ g ≠ g3 ∧ g ≠ g4) ∧
  Blk w g1 101 (s.leaves.map IdR.enc).flatten ∧ Blk w g2 3 (s.mass.map intEnc).flatten ∧ Blk w g3 3 (s.tracer.map intEnc).flatten ∧ Blk w g4 3 (s.bed.map intEnc).flatten
theorem OwnS.on {B g : Nat} {w w' : World} {s : StateR} {cs : List Value} (h : OwnS B g w s cs) (hb : Below w.heap.size w w') : OwnS B g w' s cs := by
  obtain ⟨g1, g2, g3, g4, e, hB, hn, b1, b2, b3, b4⟩ := h
  exact ⟨g1, g2, g3, g4, e, hB, hn, b1.on hb, b2.on hb, b3.on hb, b4.on hb⟩
theorem OwnS.sets {B g : Nat} {w : World} {s : StateR} {cs : List Value} (h : OwnS B g w s cs) (m : Nat) (fs : List Value) : OwnS B g (World.setCells w g m fs) s cs := by
  obtain ⟨g1, g2, g3, g4, e, hB, ⟨n1, n2, n3, n4⟩, b1, b2, b3, b4⟩ := h
  exact ⟨g1, g2, g3, g4, e, hB, ⟨n1, n2, n3, n4⟩, b1.others n1 _ _, b2.others n2 _ _, b3.others n3 _ _, b4.others n4 _ _⟩
def encS (w : World) (s : StateR) (cs : List Value) : Prop := ∃ p : At4, cs = s.cs p ∧ RdS w s p
theorem OwnS.enc {B g : Nat} {w : World} {s : StateR} {cs : List Value} (h : OwnS B g w s cs) : encS w s cs := by
  obtain ⟨g1, g2, g3, g4, rfl, _, _, b1, b2, b3, b4⟩ := h
  rw [← List.append_nil (List.map IdR.enc _).flatten] at b1
  rw [← List.append_nil (List.map intEnc _).flatten] at b2 b3 b4
  exact ⟨⟨_, _, _, _, _, _, _, _⟩, rfl, b1.rdId, b2.rdI, b3.rdI, b4.rdI⟩
theorem rdSS_of {w : World} {A : Option Addr} {l : List StateR} (h : Rds 5 encS w A l) : RdSS w A l := fun i hi => by
  obtain ⟨b, o, cs, e, hlt, hn, ⟨p, rfl, h1⟩, hc⟩ := h i hi
  exact ⟨b, o, p, e, hlt, hc 0 _ rfl, hc 1 _ rfl, hc 2 _ rfl, hc 3 _ rfl, hc 4 _ rfl, h1⟩
def PartS (B : Nat) (l : List StateR) (k : Nat) (w : World) (g : Nat) (css : List (List Value)) : Prop := css.length = k ∧ (∀ c ∈ css, c.length = 5) ∧ (∀ (i : Nat) (h : i < l.length) (h' : i < css.length), OwnS B g w l[i] css[i]) ∧ Blk w g 33 (css.flatten ++ (List.replicate (l.length - k) szero).flatten)
theorem PartS.on {B : Nat} {l : List StateR} {k : Nat} {w w' : World} {g : Nat} {css : List (List Value)} (h : PartS B l k w g css) (hb : Below w.heap.size w w') : PartS B l k w' g css :=
  ⟨h.1, h.2.1, fun i h1 h2 => (h.2.2.1 i h1 h2).on hb, h.2.2.2.on hb⟩
theorem PartS.next {B : Nat} {l : List StateR} {k : Nat} {w : World} {g g1 g2 g3 g4 : Nat} {css : List (List Value)} (h : PartS B l k w g css) (hk : k < l.length) (hown : OwnS B g w l[k] (l[k].own g1 g2 g3 g4)) :
    PartS B l (k + 1) (World.setCells w g (k * 5) (l[k].own g1 g2 g3 g4)) g (css ++ [l[k].own g1 g2 g3 g4]) := by
  obtain ⟨p1, p2, p3, p4⟩ := h
  refine ⟨by simp [p1], ?_, ?_, ?_⟩
  · intro c hc
    rcases List.mem_append.1 hc with hc | hc
    · exact p2 c hc
    · rw [List.mem_singleton.1 hc]; rfl
  · intro i hi hi'
    by_cases hlt : i < css.length
    · rw [List.getElem_append_left hlt]
      exact (p3 i hi hlt).sets _ _
    · have : i = k := by simp at hi'; omega
      subst this
      rw [List.getElem_append_right (by omega)]
      simp only [p1, Nat.sub_self, List.getElem_singleton]
      exact hown.sets _ _
  · exact p4.fill (f := l[k].own g1 g2 g3 g4) hk rfl p2 p1 rfl
/-- A slice of states in a block of its own, the states in blocks of their own. -/
def OwnSS (B : Nat) (w : World) (g : Nat) (l : List StateR) : Prop := B ≤ g ∧ ∃ css : List (List Value), css.length = l.length ∧ (∀ c ∈ css, c.length = 5) ∧ (∀ (i : Nat) (h : i < l.length) (h' : i < css.length), OwnS B g w l[i] css[i]) ∧ Blk w g 33 css.flatten
theorem OwnSS.on {B : Nat} {w w' : World} {g : Nat} {l : List StateR} (h : OwnSS B w g l) (hb : Below w.heap.size w w') : OwnSS B w' g l := by
  obtain ⟨h0, css, h1, h2, h3, h4⟩ := h
  exact ⟨h0, css, h1, h2, fun i a b => (h3 i a b).on hb, h4.on hb⟩
theorem OwnSS.rd {B : Nat} {w : World} {g : Nat} {l : List StateR} (h : OwnSS B w g l) : RdSS w (some ⟨g, 0, none⟩) l := by
  obtain ⟨h0, css, h1, h2, h3, h4⟩ := h
  rw [← List.append_nil css.flatten] at h4
  exact rdSS_of (h4.rds h1 h2 (fun i a b => (h3 i a b).enc))
set_option maxRecDepth 100000 in
set_option maxHeartbeats 2000000 in
theorem toStateS (A : Option Addr) (l : List StateR) (c : Nat) (w : World) (hr : RdSS w A l) (hl : lightAll l) :
    Calls Try.prog 21 #[.slice A l.length c] w fun e w' => ∃ g, e = .returned (own0 g l.length) ∧ OwnSS w.heap.size w' g l ∧ Below w.heap.size w w' := by
  obtain ⟨hl1, hl2⟩ := hl
  have hL1 := Lib.hid hl1
  have hL2 := Lib.hid hl2
  have hln : l.length ≤ 2000000000000 := by omega
  clear hl2 hl1
  obtain ⟨i0, hi, hz0, hz1, hz2⟩ := info_parts stateInfo
  go_enter Try.func21, Try.ntmps21
  go_wp2_with (at_make; refine wpList_make_full _ rfl _ _ 24 rfl w.heap.size 33 i0 _ 5 Try.underlying24 hi hz0 hz1 .i64 .i64 _ _ l.length rfl rfl rfl rfl ?c1 ?c2 ?c3 ?_)
  case c1 => rw [hz2]; have := hL1.out; omega
  case c2 => unfold maxLen; omega
  case c3 => exact Nat.le_refl _
  intro w1 hown hgr
  have hB := Blk.ofOwn hown
  rw [show (madeCells #[.int .i64 0, .slice none 0 0, .slice none 0 0, .slice none 0 0, .slice none 0 0] (l.length * 5)).toList = (List.replicate l.length szero).flatten from made_flat szero l.length (by decide)] at hB
  have hbl : Below w.heap.size w w1 := (Below.refl _ w).grown hgr (Nat.le_refl _) (fun k hk => by cases hk)
  clear hown hgr
  go_wp2
  go_loopw [4] (fun i wr => ∃ (k : Nat) (css : List (List Value)), k ≤ l.length ∧ i = .int .i64 k ∧ Hid (PartS w.heap.size l k wr w.heap.size css) ∧ Below w.heap.size w wr) (fun i _ => l.length - (intOf i).toNat)
  case atStart => exact ⟨0, [], Nat.zero_le _, rfl, Lib.hid ⟨rfl, by simp, fun i h1 h2 => by simp at h2, by simpa using hB⟩, hbl⟩
  case round =>
    obtain ⟨k, css, hk, rfl, hP, hbr⟩ := hrel
    by_cases hlt : k < l.length
    · obtain ⟨b, o, p, rfl, hab, x0, x1, x2, x3, x4, x5⟩ := (hr.on hbr) k hlt
      have hlk := hL2.out l[k] (List.getElem_mem hlt)
      have hcall := fun (w : World) (h : RdS w l[k] p) => toState l[k] p w h hlk
      unfold StateR.v StateR.cs at hcall
      go_wp2_with (go_at_call 46; refine (hcall _ x5).mono ?_)
      rintro e w2 ⟨g1, g2, g3, g4, rfl, ⟨hg1, hg2, hg3, hg4⟩, hB1, hB2, hB3, hB4, hb2⟩
      have hbw := Lib.hid (hbr.trans (hb2.mono hbr.size))
      obtain ⟨p1, p2, p3, p4⟩ := hP.out.on hb2
      have hgb : w.heap.size < wr.heap.size := hP.out.2.2.2.lt
      have hOS := Lib.hid (show OwnS w.heap.size w.heap.size w2 l[k] (l[k].own g1 g2 g3 g4) from ⟨g1, g2, g3, g4, rfl, ⟨by omega, by omega, by omega, by omega⟩, ⟨by omega, by omega, by omega, by omega⟩, hB1, hB2, hB3, hB4⟩)
      have hth : w2.there w.heap.size (k * 5) 5 := p4.there _ _ (by rw [List.length_append, flat_len p2, p1, flat_len (n := 5) (fun c hc => by rw [List.eq_of_mem_replicate hc]; rfl), List.length_replicate]; omega)
      have hP' := Lib.hid (show PartS w.heap.size l k w2 w.heap.size css from ⟨p1, p2, p3, p4⟩)
      clear p1 p2 p3 p4 hB1 hB2 hB3 hB4 hcall x0 x1 x2 x3 x4 x5
      unfold StateR.own own0
      go_wp2_with ((with_reducible show Go.wpList _ _ _ (Oper.mk none (.store 33 (.tmp 21) (.tmp 20)) _ _ _ _ :: _) _ _); go_loud (refine store_state rfl (.tmp 21) (.tmp 20) rfl w.heap.size (k * 5) (l[k].own g1 g2 g3 g4) rfl rfl hth (StateR.one l[k] g1 g2 g3 g4) rfl ?_))
      go_roundw
      case rel =>
        exact ⟨k + 1, css ++ [l[k].own g1 g2 g3 g4], by omega, by go_num, Lib.hid (hP'.out.next hlt hOS.out), below_sets (Nat.le_refl _) (l[k].own g1 g2 g3 g4) _ hbw.out⟩
      case measure => simp [intOf]; omega
    · have hkl : k = l.length := by omega
      go_wp2
      go_ret
      obtain ⟨p1, p2, p3, p4⟩ := hP.out
      refine ⟨w.heap.size, rfl, ⟨Nat.le_refl _, css, by omega, p2, p3, ?_⟩, hbr⟩
      rw [hkl] at p4
      simpa using p4
set_option maxHeartbeats 2000000 in
theorem eqState (s : StateR) (p q : At4) (w : World) (h1 : RdS w s p) (h2 : RdS w s q) (hf : s.fits) :
    Calls Try.prog 47 #[s.v p, s.v q] w fun e w' => e = .returned (.bool true) ∧ Below w.heap.size w w' := by
  obtain ⟨f1, f2, f3, f4⟩ := hf
  unfold StateR.v StateR.cs
  go_enter Try.func47, Try.ntmps47
  obtain ⟨hK1, hK2, hsz, hb0⟩ := blk2 w 33 33 [.int .i64 s.roots, .slice p.A1 s.leaves.length p.c1, .slice p.A2 s.mass.length p.c2, .slice p.A3 s.tracer.length p.c3, .slice p.A4 s.bed.length p.c4] [.int .i64 s.roots, .slice q.A1 s.leaves.length q.c1, .slice q.A2 s.mass.length q.c2, .slice q.A3 s.tracer.length q.c3, .slice q.A4 s.bed.length q.c4]
  have hSZ := Lib.hid hsz
  clear hsz
  have m1 := h1.on hb0
  have m2 := h2.on hb0
  go_wp2_with (first
    | (go_at_call 65; refine (eqMesh s.roots p.A1 q.A1 s.leaves _ _ _ m1.h1 m2.h1 f1).mono ?_; rintro e w1 ⟨rfl, hb1⟩; have kA := hK1.on hb1; have kB := hK2.on hb1; have p2 := kA.cell (i := 2) rfl; have q2 := kB.cell (i := 2) rfl; have m1' := m1.on hb1; have m2' := m2.on hb1; have hw1 := Lib.hid (hb0.trans (hb1.mono hb0.size)))
    | (go_at_call 22; (fail_if_success (have := tokA)); refine (eqIntS p.A2 q.A2 s.mass _ _ _ m1'.h2 m2'.h2 f2).mono ?_; rintro e w2 ⟨rfl, hb2⟩; have tokA : True := trivial; have kA2 := kA.on hb2; have kB2 := kB.on hb2; have p3 := kA2.cell (i := 3) rfl; have q3 := kB2.cell (i := 3) rfl; have m3 := m1'.on hb2; have m4 := m2'.on hb2; have hw2 := Lib.hid (hw1.out.trans (hb2.mono hw1.out.size)))
    | (go_at_call 22; (fail_if_success (have := tokB)); refine (eqIntS p.A3 q.A3 s.tracer _ _ _ m3.h3 m4.h3 f3).mono ?_; rintro e w3 ⟨rfl, hb3⟩; have tokB : True := trivial; have kA3 := kA2.on hb3; have kB3 := kB2.on hb3; have p4 := kA3.cell (i := 4) rfl; have q4 := kB3.cell (i := 4) rfl; have m5 := m3.on hb3; have m6 := m4.on hb3; have hw3 := Lib.hid (hw2.out.trans (hb3.mono hw2.out.size)))
    | (go_at_call 22; refine (eqIntS p.A4 q.A4 s.bed _ _ _ m5.h4 m6.h4 f4).mono ?_; rintro e w4 ⟨rfl, hb4⟩))
  go_ret
  exact ⟨rfl, hw3.out.trans (hb4.mono hw3.out.size)⟩
set_option maxHeartbeats 4000000 in
theorem eqStateS (A B : Option Addr) (l : List StateR) (c d : Nat) (w : World) (hA : RdSS w A l) (hB : RdSS w B l) (hl : l.length ≤ 1000000000000000) (hf : fitsAll l) :
    Calls Try.prog 23 #[.slice A l.length c, .slice B l.length d] w fun e w' => e = .returned (.bool true) ∧ Below w.heap.size w w' := by
  have hF := Lib.hid hf
  clear hf
  go_enter Try.func23, Try.ntmps23
  go_wp2
  go_loopw [5] (fun i wr => ∃ k : Nat, k ≤ l.length ∧ i = .int .i64 k ∧ Below w.heap.size w wr) (fun i _ => l.length - (intOf i).toNat)
  case atStart => exact ⟨0, Nat.zero_le _, rfl, Below.refl _ _⟩
  case round =>
    obtain ⟨k, hk, rfl, hbr⟩ := hrel
    by_cases hlt : k < l.length
    · obtain ⟨b, o, p, rfl, hab, x0, x1, x2, x3, x4, x5⟩ := (hA.on hbr) k hlt
      obtain ⟨b', o', q, rfl, hab', y0, y1, y2, y3, y4, y5⟩ := (hB.on hbr) k hlt
      have hz : (0 : Int) ≤ (k : Int) := by omega
      have hz2 : (k : Int) < (l.length : Int) := by omega
      have hfk := hF.out l[k] (List.getElem_mem hlt)
      have hcall := fun (w : World) (h1 : RdS w l[k] p) (h2 : RdS w l[k] q) => eqState l[k] p q w h1 h2 hfk
      unfold StateR.v StateR.cs at hcall
      have X0 := cell_regrown x0
      have X1 := cell_regrown x1
      have X2 := cell_regrown x2
      have X3 := cell_regrown x3
      have X4 := cell_regrown x4
      have Y0 := cell_regrown y0
      have Y1 := cell_regrown y1
      have Y2 := cell_regrown y2
      have Y3 := cell_regrown y3
      have Y4 := cell_regrown y4
      have X5 := Lib.hid x5
      have Y5 := Lib.hid y5
      clear x0 x1 x2 x3 x4 x5 y0 y1 y2 y3 y4 y5
      go_wp2_with fail
      refine wp_region_quiet_below (by kernel_rfl) (by kernel_rfl) ?_
      repeat (go_big_quiet_step ((go_at_call 47; exact Calls.regrown_of (hcall _ (X5.out.on (below_regrown _ _ _)) (Y5.out.on (below_regrown _ _ _))))))
      refine wpQuiet_nil ?_
      intro _ hw'
      obtain ⟨⟨dq, osq⟩, hw''⟩ := hw'
      subst hw''
      go_wp2
      go_roundw
      case rel => exact ⟨k + 1, by omega, by go_num, hbr.trans ((below_regrown wr dq osq).mono hbr.size)⟩
      case measure => simp [intOf]; omega
    · go_wp2
      go_ret
      exact ⟨rfl, hbr⟩
end Go.Proofs.Ythdiilcpelioaaa
