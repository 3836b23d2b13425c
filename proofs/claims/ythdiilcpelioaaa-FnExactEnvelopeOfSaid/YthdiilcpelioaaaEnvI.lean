/- EnvelopeOf, by the program. Condition: as many elements as memory takes. -/
import Derived.Test.YthdiilcpelioaaaClone
import Derived.BigRegion
import Derived.Deep.DeepCutAuto
import Derived.ChangeAlike
set_option linter.unusedVariables false
set_option linter.unusedSimpArgs false
namespace Go.Proofs.Ythdiilcpelioaaa
open Go.RowKit
def mnI (x y : Int) : Int := if y < x then y else x
def lowL (a b : List Int) : List Int := List.zipWith mnI a b
def highL (a b : List Int) : List Int := List.zipWith mxI a b
def envLow (l : List StateR) : List Int := (l.drop 1).foldl (fun a s => lowL a s.mass) (stAt l 0).mass
def envHigh (l : List StateR) : List Int := (l.drop 1).foldl (fun a s => highL a s.mass) (stAt l 0).mass
def loK (l : List StateR) (k : Nat) : List Int := (l.take k).foldl (fun a s => lowL a s.mass) (stAt l 0).mass
def hiK (l : List StateR) (k : Nat) : List Int := (l.take k).foldl (fun a s => highL a s.mass) (stAt l 0).mass
theorem loK_zero {l : List StateR} (h : 0 < l.length) : loK l 0 = l[0].mass := by simp [loK, stAt_at h]
theorem hiK_zero {l : List StateR} (h : 0 < l.length) : hiK l 0 = l[0].mass := by simp [hiK, stAt_at h]
theorem loK_succ {l : List StateR} {k : Nat} (h : k < l.length) : loK l (k + 1) = lowL (loK l k) l[k].mass := by
  rw [loK, List.take_succ_eq_append_getElem h, List.foldl_append]; rfl
theorem hiK_succ {l : List StateR} {k : Nat} (h : k < l.length) : hiK l (k + 1) = highL (hiK l k) l[k].mass := by
  rw [hiK, List.take_succ_eq_append_getElem h, List.foldl_append]; rfl
theorem lowL_self (a : List Int) : lowL a a = a := by
  induction a with
  | nil => rfl
  | cons x a ih => simp [lowL, mnI]
theorem highL_self (a : List Int) : highL a a = a := by
  induction a with
  | nil => rfl
  | cons x a ih => simp [highL, mxI]
theorem loK_all {l : List StateR} (h : 0 < l.length) : loK l l.length = envLow l := by
  cases l with
  | nil => simp at h
  | cons s l => simp [loK, envLow, stAt, lowL_self]
theorem hiK_all {l : List StateR} (h : 0 < l.length) : hiK l l.length = envHigh l := by
  cases l with
  | nil => simp at h
  | cons s l => simp [hiK, envHigh, stAt, highL_self]
theorem loK_len {l : List StateR} {n : Nat} (h : ∀ i (hi : i < l.length), l[i].mass.length = n) (h0 : 0 < l.length) : ∀ k, k ≤ l.length → (loK l k).length = n
  | 0, _ => by rw [loK_zero h0]; exact h 0 h0
  | k + 1, hk => by
    have ih := loK_len h h0 k (by omega)
    rw [loK_succ (by omega)]
    simp [lowL, ih, h k (by omega)]
theorem hiK_len {l : List StateR} {n : Nat} (h : ∀ i (hi : i < l.length), l[i].mass.length = n) (h0 : 0 < l.length) : ∀ k, k ≤ l.length → (hiK l k).length = n
  | 0, _ => by rw [hiK_zero h0]; exact h 0 h0
  | k + 1, hk => by
    have ih := hiK_len h h0 k (by omega)
    rw [hiK_succ (by omega)]
    simp [highL, ih, h k (by omega)]
/-- A list some of whose first elements are those of another. -/
def mix (new old : List Int) (i : Nat) : List Int := new.take i ++ old.drop i
theorem mix_zero (a b : List Int) : mix a b 0 = b := by simp [mix]
theorem mix_all {a b : List Int} (h : a.length = b.length) : mix a b b.length = a := by simp [mix, ← h]
theorem mix_at {a b : List Int} {i : Nat} (h : a.length = b.length) (hi : i < b.length) : (mix a b i)[i]? = some b[i] := by
  unfold mix
  rw [List.getElem?_append_right (by simp; omega)]
  simp
  rw [show i + (i - min i a.length) = i by omega, List.getElem?_eq_getElem hi]
theorem mix_set {a b : List Int} {i : Nat} (h : a.length = b.length) (hi : i < b.length) : (mix a b i).set i (a[i]'(by omega)) = mix a b (i + 1) := by
  unfold mix
  rw [List.set_append_right _ _ (by simp; omega), List.take_succ_eq_append_getElem (by omega), List.append_assoc]
  congr 1
  rw [List.drop_eq_getElem_cons hi, List.length_take, show i - min i a.length = 0 by omega]
  rfl
theorem ints_set (l : List Int) (i : Nat) (x : Int) (T : List Value) (h : i < l.length) : (ints l ++ T).set i (.int .i64 x) = ints (l.set i x) ++ T := by
  rw [List.set_append_left _ _ (by rw [ints_len]; exact h)]
  simp [ints, List.map_set]
theorem ints_at {l : List Int} {i : Nat} {x : Int} {T : List Value} (h : l[i]? = some x) : (ints l ++ T)[i]? = some (.int .i64 x) := by
  have hi := (List.getElem?_eq_some_iff.1 h).1
  rw [List.getElem?_append_left (by rw [ints_len]; exact hi)]
  simp [ints, h]
/-- As many numbers as memory takes. -/
def massFits (l : List StateR) : Prop := ∀ s ∈ l, s.mass.length * 8 ≤ 140737488355328
theorem sameMesh_len {ra rb : Int} {a b : List IdR} (h : sameMesh ra a rb b = true) : a.length = b.length := by
  unfold sameMesh idsEq at h
  simp at h
  exact h.2.1
theorem alike_len {s t : StateR} (h : alike s t = true) (ht : t.fine = true) : s.mass.length = t.mass.length := by
  unfold alike StateR.fine StateR.has at h
  unfold StateR.fine StateR.has at ht
  simp only [Bool.and_eq_true, decide_eq_true_eq] at h ht
  have := sameMesh_len h.2
  omega
theorem alike_fine {s t : StateR} (h : alike s t = true) : s.fine = true := by
  unfold alike at h
  simp only [Bool.and_eq_true] at h
  exact h.1
theorem meshOk_pos {r : Int} {l : List IdR} (h : meshOk r l = true) : 0 < l.length := by
  cases l with
  | nil =>
    simp [meshOk, scan, inR] at h
    omega
  | cons x l => simp
theorem fine_pos {s : StateR} (h : s.fine = true) : 0 < s.mass.length := by
  unfold StateR.fine StateR.has balOk at h
  simp only [Bool.and_eq_true, decide_eq_true_eq] at h
  have := meshOk_pos h.1.1
  omega
set_option maxRecDepth 100000 in
set_option maxHeartbeats 4000000 in
theorem implEnvNo (A : Option Addr) (l : List StateR) (c : Nat) (w : World) (hr : RdSS w A l) (hf : fitsAll l) (hl : l.length ≤ 1000000000000) (h : askOk l = false) :
    Calls Try.prog 8 #[.slice A l.length c] w fun e w' => e = .returned (.tuple #[.slice none 0 0, .slice none 0 0, .bool false]) ∧ Below w.heap.size w w' := by
  go_enter Try.func8, Try.ntmps8
  have hb0 := below_new w (.cells #[.slice A l.length c] 24)
  have m0 : (w.alloc (.cells #[.slice A l.length c] 24)).cell? ⟨w.heap.size, 0, none⟩ = some (.slice A l.length c) := Lib.cell_of_heap (heap_alloc_new w _) _
  cases hlen : inR l.length 1 100
  · go_wp2_with (go_at_call 31; refine (within _ _ _ _ _ hlen).mono ?_; rintro e w2 ⟨rfl, rfl⟩)
    go_ret3
    exact ⟨rfl, hb0⟩
  · have hb := inR_true.1 hlen
    have h0 : 0 < l.length := by omega
    have hH := Lib.hid h
    rw [askOk_alike hlen h0] at h
    go_wp2_with (first
      | (go_at_call 31; refine (within _ _ _ _ _ hlen).mono ?_; rintro e w2 ⟨rfl, rfl⟩)
      | (go_at_call 32; refine (containsOther A l c c w.heap.size _ _ (hr.on hb0) hf hl h0 m0 h).mono ?_; rintro e w1 ⟨rfl, hb1⟩))
    go_ret3
    exact ⟨rfl, hb0.trans (hb1.mono hb0.size)⟩
set_option maxRecDepth 100000 in
set_option maxHeartbeats 8000000 in
theorem implEnvYes (A : Option Addr) (l : List StateR) (c : Nat) (w : World) (hr : RdSS w A l) (hf : fitsAll l) (hm : massFits l) (hl : l.length ≤ 1000000000000) (h : askOk l = true) :
    Calls Try.prog 8 #[.slice A l.length c] w fun e w' => ∃ g1 c1 T1 g2 c2 T2, e = .returned (.tuple #[.slice (some ⟨g1, 0, none⟩) (envLow l).length c1, .slice (some ⟨g2, 0, none⟩) (envHigh l).length c2, .bool true]) ∧ w.heap.size ≤ g1 ∧ w.heap.size ≤ g2 ∧ g1 ≠ g2 ∧ Blk w' g1 3 (ints (envLow l) ++ T1) ∧ Blk w' g2 3 (ints (envHigh l) ++ T2) ∧ Below w.heap.size w w' := by
  have hlen : inR l.length 1 100 = true := by unfold askOk at h; simp only [Bool.and_eq_true] at h; exact h.1
  have hb := inR_true.1 hlen
  have h0 : 0 < l.length := by omega
  have hal : allAlike l h0 = true := by rw [← askOk_alike hlen h0]; exact h
  have hall : ∀ i (hi : i < l.length), alike l[i] (l[0]'h0) = true := fun i hi => List.all_eq_true.1 hal _ (List.getElem_mem hi)
  have hfine0 := alike_fine (hall 0 h0)
  have hlens : ∀ i (hi : i < l.length), l[i].mass.length = (l[0]'h0).mass.length := fun i hi => alike_len (hall i hi) hfine0
  have hp0 := fine_pos hfine0
  go_enter Try.func8, Try.ntmps8
  have hb0 := below_new w (.cells #[.slice A l.length c] 24)
  have m0 : (w.alloc (.cells #[.slice A l.length c] 24)).cell? ⟨w.heap.size, 0, none⟩ = some (.slice A l.length c) := Lib.cell_of_heap (heap_alloc_new w _) _
  have hA := Lib.hid hall
  have hLens := Lib.hid hlens
  have hF := Lib.hid hf
  have hM := Lib.hid hm
  clear hall hlens hf hm h
  go_upto_region 3 with (first
      | (go_at_call 31; refine (within _ _ _ _ _ hlen).mono ?_; rintro e w2 ⟨rfl, rfl⟩)
      | (go_at_call 32; refine (containsOther A l c c w.heap.size _ _ (hr.on hb0) hF.out hl h0 m0 hal).mono ?_; rintro e w1 ⟨rfl, hb1⟩))
  have hw1 := hb0.trans (hb1.mono hb0.size)
  have n0 := cell_on hb1 m0
  have hsz1 : w.heap.size < w1.heap.size := World.block_lt_of_cell? w1 _ n0
  obtain ⟨b, o, p, heq, hab, x0, x1, x2, x3, x4, x5⟩ := (hr.on hw1) 0 h0
  simp only [Nat.zero_mul, Nat.add_zero] at x0 x1 x2 x3 x4
  subst heq
  obtain ⟨A1, c1, A2, c2, A3, c3, A4, c4⟩ := p
  obtain ⟨bm, om, rfl, _, _⟩ := x5.h2 0 hp0
  dsimp only at x0 x1 x2 x3 x4 x5
  have hml := hM.out l[0] (List.getElem_mem h0)
  go_cut [5, 6] (fun s5 s6 wx => ∃ g1 k1 T1 g2 k2 T2, s5 = .slice (some ⟨g1, 0, none⟩) (l[0]'h0).mass.length k1 ∧ s6 = .slice (some ⟨g2, 0, none⟩) (l[0]'h0).mass.length k2 ∧ w.heap.size < g1 ∧ w.heap.size < g2 ∧ g1 ≠ g2 ∧ Blk wx g1 3 (ints (l[0]'h0).mass ++ T1) ∧ Blk wx g2 3 (ints (l[0]'h0).mass ++ T2) ∧ Below w1.heap.size w1 wx)
  case first =>
    have hD : Below w1.heap.size w1 w1.drew := (Below.refl _ _).drew
    have hr2 : RdI w1.drew (some ⟨bm, om, none⟩) (l[0]'h0).mass := x5.h2.on (Below.refl w1.heap.size w1).drew
    have s5 : (0 : Int) < (l.length : Int) := by omega
    go_region_held3 (fun w' => w'.cell? ⟨w.heap.size, 0, none⟩ = some (.slice (some ⟨b, o, none⟩) l.length c) ∧ w'.cell? ⟨b, o + 2, none⟩ = some (.slice (some ⟨bm, om, none⟩) (l[0]'h0).mass.length c2) ∧ RdI w' (some ⟨bm, om, none⟩) (l[0]'h0).mass ∧ w1.heap.size ≤ w'.heap.size ∧ Below w1.heap.size w1 w')
      (first
        | (go_keep; done)
        | (go_split_ands; exact ⟨by go_keep, by go_keep, by with_reducible assumption, by go_keep, by with_reducible assumption⟩)
        | (go_split_ands; exact ⟨cell_on hb' (by with_reducible assumption), cell_on hb' (by with_reducible assumption), RdI.on (by with_reducible assumption) hb', Nat.le_trans (by with_reducible assumption) hb'.size, Below.trans (by with_reducible assumption) (hb'.mono (by with_reducible assumption))⟩))
      (first
        | (go_at_call 36; (fail_if_success (have := tokA)); refine (implCloneI bm om (l[0]'h0).mass _ _ (by with_reducible assumption) hml).mono ?_; rintro e w' ⟨v, rfl, ⟨gA, kA, TA, rfl, hgA, hBA⟩, hb'⟩; have tokA : True := trivial)
        | (go_at_call 36; go_split_ands; refine (implCloneI bm om (l[0]'h0).mass _ _ (by with_reducible assumption) hml).mono ?_; rintro e w' ⟨v, rfl, ⟨gB, kB, TB, rfl, hgB, hBB⟩, hb'⟩; have hAB := hBA.lt; have hBA2 := hBA.on hb'))
    all_goals
      rename_i hS
      have hwS := hS.2.2.2.2
      clear hS
      go_wp2_with fail
      go_meet
      exact ⟨gA, kA, TA, gB, kB, TB, rfl, rfl, by simp at hgA; omega, by simp at hgA; omega, by omega, hBA2, hBB, hwS⟩
  case rest =>
    obtain ⟨g1, k1, T1, g2, k2, T2, rfl, rfl, hg1, hg2, hne, hB1, hB2, hbx⟩ := hcut
    have hwc := hw1.trans (hbx.mono hw1.size)
    have nn0 := cell_on hbx n0
    clear x0 x1 x2 x3 x4 x5 n0 hbx hb1 hb0 m0 hw1
    go_wp2_with fail
    go_loopw [32] (fun i wr => ∃ k : Nat, k ≤ l.length ∧ i = .int .i64 k ∧ Blk wr g1 3 (ints (loK l k) ++ T1) ∧ Blk wr g2 3 (ints (hiK l k) ++ T2) ∧ Below w.heap.size w wr) (fun i _ => l.length - (intOf i).toNat)
    case atStart => exact ⟨0, Nat.zero_le _, rfl, by rw [loK_zero h0]; exact hB1, by rw [hiK_zero h0]; exact hB2, hwc⟩
    case round =>
      obtain ⟨k, hk, rfl, hL, hH, hbr⟩ := hrel
      by_cases hlt : k < l.length
      · obtain ⟨b', o', p', heq, hab', y0, y1, y2, y3, y4, y5⟩ := hr k hlt
        simp only [Option.some.injEq, Addr.mk.injEq, and_true] at heq
        obtain ⟨rfl, rfl⟩ := heq
        have x0 := cell_on hbr y0
        have x1 := cell_on hbr y1
        have x2 := cell_on hbr y2
        have x3 := cell_on hbr y3
        have x4 := cell_on hbr y4
        have hlk := hLens.out k hlt
        have hpk : 0 < l[k].mass.length := by rw [hlk]; exact hp0
        obtain ⟨bm', om', heq', _, _⟩ := y5.h2 0 hpk
        have hx3 : RdI w (some ⟨bm', om', none⟩) l[k].mass := by rw [← heq']; exact y5.h2
        rw [heq'] at x2
        have hmlk : l[k].mass.length ≤ 1000000000000000 := (hF.out l[k] (List.getElem_mem hlt)).f2
        have hN3 := Lib.hid hlk
        clear hlk
        have hHq := Lib.hid heq'
        clear heq'
        go_wp2_with fail
        have hbn := below_new wr (.cells #[.int .i64 l[k].roots, .slice p'.A1 l[k].leaves.length p'.c1, .slice (some ⟨bm', om', none⟩) l[k].mass.length p'.c2, .slice p'.A3 l[k].tracer.length p'.c3, .slice p'.A4 l[k].bed.length p'.c4] 33)
        have hbn2 := hbr.trans (hbn.mono hbr.size)
        have hL2 := hL.on hbn
        have hH2 := hH.on hbn
        have hlo := loK_len hLens.out h0 k hk
        have hhi := hiK_len hLens.out h0 k hk
        have hloS := Lib.hid (loK_succ hlt)
        have hhiS := Lib.hid (hiK_succ hlt)
        have hg1 : w.heap.size ≤ g1 := Nat.le_of_lt hg1
        have hg2 : w.heap.size ≤ g2 := Nat.le_of_lt hg2
        generalize wr.alloc (.cells #[.int .i64 l[k].roots, .slice p'.A1 l[k].leaves.length p'.c1, .slice (some ⟨bm', om', none⟩) l[k].mass.length p'.c2, .slice p'.A3 l[k].tracer.length p'.c3, .slice p'.A4 l[k].bed.length p'.c4] 33) = wo at hL2 hH2 hbn2 ⊢
        clear hL hH hbr x0 x1 x2 x3 x4 y0 y1 y2 y3 y4 y5 hHq hbn nn0
        generalize l[k].mass = m at hx3 hN3 hpk hmlk hloS hhiS ⊢
        generalize loK l k = lo at hL2 hlo hloS
        generalize hiK l k = hi at hH2 hhi hhiS
        have hN := Lib.hid hlo
        have hN2 := Lib.hid hhi
        have hlk := hN3.out
        have hll : (lowL lo m).length = lo.length := by simp [lowL]; omega
        have hhl : (highL hi m).length = hi.length := by simp [highL]; omega
        have hLL := Lib.hid hll
        have hHL := Lib.hid hhl
        clear hlo hhi hlk hll hhl hwc
        go_loopw [39] (fun i wr => ∃ j : Nat, j ≤ m.length ∧ i = .int .i64 j ∧ Blk wr g1 3 (ints (mix (lowL lo m) lo j) ++ T1) ∧ Blk wr g2 3 (ints (mix (highL hi m) hi j) ++ T2) ∧ Below w.heap.size w wr) (fun i _ => m.length - (intOf i).toNat)
        case atStart => exact ⟨0, Nat.zero_le _, rfl, by rw [mix_zero]; exact hL2, by rw [mix_zero]; exact hH2, hbn2⟩
        case round =>
          obtain ⟨j, hj, rfl, hLj, hHj, hbj⟩ := hrel
          by_cases hjt : j < m.length
          · obtain ⟨b2, o2, heq2, hab2, z0⟩ := (hx3.on hbj) j hjt
            simp only [Option.some.injEq, Addr.mk.injEq, and_true] at heq2
            obtain ⟨rfl, rfl⟩ := heq2
            have hjl : j < lo.length := by rw [hN.out, ← hN3.out]; exact hjt
            have hjh : j < hi.length := by rw [hN2.out, ← hN3.out]; exact hjt
            have u1 := hLj.cell (ints_at (mix_at hLL.out hjl))
            have u2 := hHj.cell (ints_at (mix_at hHL.out hjh))
            have v1 := hLj.frozen j
            have v2 := hHj.frozen j
            have s1 : (0 : Int) ≤ (j : Int) := by omega
            have s2 : (j : Int) < (m.length : Int) := by omega
            have s3 : (j : Int) < ((l[0]'h0).mass.length : Int) := by rw [← hN3.out]; omega
            have hLJ := Lib.hid hLj
            have hHJ := Lib.hid hHj
            clear hLj hHj
            have hq1 := Lib.hid (show (mix (lowL lo m) lo j).set j (mnI lo[j] m[j]) = mix (lowL lo m) lo (j + 1) by
              rw [← mix_set hLL.out hjl]; simp [lowL])
            have hq2 := Lib.hid (show (mix (highL hi m) hi j).set j (mxI hi[j] m[j]) = mix (highL hi m) hi (j + 1) by
              rw [← mix_set hHL.out hjh]; simp [highL])
            have hq3 := Lib.hid (show j < (mix (lowL lo m) lo j).length ∧ j < (mix (highL hi m) hi j).length from ⟨(List.getElem?_eq_some_iff.1 (mix_at hLL.out hjl)).1, (List.getElem?_eq_some_iff.1 (mix_at hHL.out hjh)).1⟩)
            generalize lo[j] = x at u1 hq1
            generalize hi[j] = y at u2 hq2
            generalize m[j] = z at z0 hq1 hq2
            go_wp2_with fail
            go_region
            go_wp2_with fail
            go_roundw
            case rel =>
              have S1 := (((hLJ.out.set j (.int .i64 (mnI x z))).other (Ne.symm hne) j (.int .i64 (mxI y z)))).drew
              have S2 := (((hHJ.out.other hne j (.int .i64 (mnI x z))).set j (.int .i64 (mxI y z)))).drew
              rw [ints_set _ _ _ _ hq3.out.1, hq1.out] at S1
              rw [ints_set _ _ _ _ hq3.out.2, hq2.out] at S2
              exact ⟨j + 1, by omega, by go_num, S1, S2, ((hbj.setCell (p := ⟨g1, j, none⟩) hg1 _).setCell (p := ⟨g2, j, none⟩) hg2 _).drew⟩
            case measure => simp [intOf]; omega
          · have hjl : j = m.length := by omega
            have hlm : lo.length = m.length := by rw [hN.out, hN3.out]
            have hhm : hi.length = m.length := by rw [hN2.out, hN3.out]
            rw [hjl, ← hlm, mix_all hLL.out, ← hloS.out] at hLj
            rw [hjl, ← hhm, mix_all hHL.out, ← hhiS.out] at hHj
            clear hlm hhm
            go_wp2_with fail
            go_roundw
            case rel => exact ⟨k + 1, by omega, by go_num, hLj, hHj, hbj⟩
            case measure => simp [intOf]; omega
      · have hkl : k = l.length := by omega
        rw [hkl] at hL hH
        rw [loK_all h0] at hL
        rw [hiK_all h0] at hH
        have e1 : (envLow l).length = (l[0]'h0).mass.length := by rw [← loK_all h0]; exact loK_len hLens.out h0 _ (Nat.le_refl _)
        have e2 : (envHigh l).length = (l[0]'h0).mass.length := by rw [← hiK_all h0]; exact hiK_len hLens.out h0 _ (Nat.le_refl _)
        have E1 := Lib.hid e1
        have E2 := Lib.hid e2
        clear e1 e2
        go_wp2
        go_ret3
        exact ⟨g1, k1, T1, g2, k2, T2, by rw [E1.out, E2.out]; rfl, Nat.le_of_lt hg1, Nat.le_of_lt hg2, hne, hL, hH, hbr⟩
end Go.Proofs.Ythdiilcpelioaaa
