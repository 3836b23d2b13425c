/- Equal meshes, by the reference and by the program. Condition: as many elements as memory takes. -/
import Derived.Test.YthdiilcpelioaaaSt
import Derived.Laws.StructEq
set_option linter.unusedVariables false
set_option linter.unusedSimpArgs false
namespace Go.Proofs.Ythdiilcpelioaaa
open Go.RowKit
def idEq (x y : IdR) : Bool := x.r == y.r && (x.l == y.l && x.i == y.i)
def idsEq (a b : List IdR) : Bool := decide (a.length = b.length) && (List.range a.length).all fun i => idEq (a.getD i default) (b.getD i default)
def sameMesh (ra : Int) (a : List IdR) (rb : Int) (b : List IdR) : Bool := ra == rb && idsEq a b
theorem getId {l : List IdR} {i : Nat} (h : i < l.length) : l.getD i default = l[i] := by
  rw [List.getD_eq_getElem?_getD, List.getElem?_eq_getElem h]; rfl
theorem idsEq_no {a b : List IdR} {k : Nat} (hk : k < a.length) (ht : k < b.length) (h : idEq a[k] b[k] = false) : idsEq a b = false := by
  unfold idsEq
  rw [Bool.and_eq_false_iff]
  right
  rw [List.all_eq_false]
  exact ⟨k, List.mem_range.2 hk, by rw [getId hk, getId ht, h]; simp⟩
theorem idsEq_yes {a b : List IdR} (ht : a.length = b.length) (h : ∀ i (hi : i < a.length) (hj : i < b.length), idEq a[i] b[i] = true) : idsEq a b = true := by
  unfold idsEq
  rw [Bool.and_eq_true]
  refine ⟨by simpa using ht, ?_⟩
  rw [List.all_eq_true]
  intro i hi
  have hi' := List.mem_range.1 hi
  rw [getId hi', getId (by omega)]
  exact h i hi' (by omega)
section
variable {P : Program} {d : Nat} {xs ys : Array Value} {f : Field} {fs : List Field} {a b : Value} {r s : Bool} {w : World}
theorem eqf_last (hn : (f.name == "_") = false) (ha : (part f.type xs f.offset).run P w = .ok a w) (hb : (part f.type ys f.offset).run P w = .ok b w) (he : (Op.equalIn d f.type a b).run P w = .ok r w) : (Op.eqFields d xs ys [f]).run P w = .ok r w := by
  have hn' : f.name ≠ "_" := by simpa using hn
  simp only [Op.eqFields, if_pos hn', Sem.run_bind, ha, hb, he, Result.andThen_ok]
  cases r <;> simp
theorem eqf_cons (hn : (f.name == "_") = false) (ha : (part f.type xs f.offset).run P w = .ok a w) (hb : (part f.type ys f.offset).run P w = .ok b w) (he : (Op.equalIn d f.type a b).run P w = .ok r w) (hr : (Op.eqFields d xs ys fs).run P w = .ok s w) : (Op.eqFields d xs ys (f :: fs)).run P w = .ok (r && s) w := by
  have hn' : f.name ≠ "_" := by simpa using hn
  rw [Op.eqFields]
  simp only [if_pos hn', Sem.run_bind, ha, hb, he, Result.andThen_ok]
  cases r
  · simp
  · simpa using hr
theorem eqA_of {t : TypeId} {fs : Array Field} (hu : P.underlying t = some (.struct fs)) (hp : P.stoodInHeld t = false) (h : (Op.eqFields d xs ys fs.toList).run P w = .ok r w) : (Op.equalIn (d + 1) t (.agg xs) (.agg ys)).run P w = .ok r w := by
  have hf : P.fieldsOf t = fs := by simp [Program.fieldsOf, hu]
  rw [run_equalIn_struct (P := P) w d t xs ys (by rw [hf]; exact hu) hp, hf]
  exact h
end
theorem eqIdIn (d : Nat) (w : World) (x0 y0 x1 y1 x2 y2 : Int) :
    (Op.equalIn (d + 2) 101 (.agg #[.int .i64 x0, .int .i64 x1, .int .i64 x2]) (.agg #[.int .i64 y0, .int .i64 y1, .int .i64 y2])).run Try.prog w = .ok (x0 == y0 && (x1 == y1 && x2 == y2)) w := by
  refine eqA_of Try.underlying101 (by kernel_rfl) ?_
  refine eqf_cons (by rfl) (by go_simp; rfl) (by go_simp; rfl) (by go_simp) ?_
  refine eqf_cons (by rfl) (by go_simp; rfl) (by go_simp; rfl) (by go_simp) ?_
  exact eqf_last (by rfl) (by go_simp; rfl) (by go_simp; rfl) (by go_simp)
theorem neqId {r1 l1 i1 r2 l2 i2 : Int} {v : Bool} (h : (r1 == r2 && (l1 == l2 && i1 == i2)) = v) (w : World) :
    (binOp .neq 101 (.agg #[.int .i64 r1, .int .i64 l1, .int .i64 i1]) (.agg #[.int .i64 r2, .int .i64 l2, .int .i64 i2])).run Try.prog w = .ok (.bool (!v)) w := by
  rw [run_neq_struct, eqIdIn 9998, Result.andThen_ok, h]
theorem eqlId {r1 l1 i1 r2 l2 i2 : Int} {v : Bool} (h : (r1 == r2 && (l1 == l2 && i1 == i2)) = v) (w : World) :
    (binOp .eql 101 (.agg #[.int .i64 r1, .int .i64 l1, .int .i64 i1]) (.agg #[.int .i64 r2, .int .i64 l2, .int .i64 i2])).run Try.prog w = .ok (.bool v) w := by
  rw [run_eql_struct, eqIdIn 9998, Result.andThen_ok, h]
set_option maxHeartbeats 2000000 in
theorem implEqualIds (A B : Option Addr) (a b : List IdR) (c d : Nat) (w : World) (hA : RdId w A a) (hB : RdId w B b) (hl : a.length ≤ 1000000000000000) (hl2 : b.length ≤ 1000000000000000) :
    Calls Try.prog 56 #[.slice A a.length c, .slice B b.length d] w fun e w' => e = .returned (.bool (idsEq a b)) ∧ ∃ n, w' = w.drewN n := by
  go_enter Try.func56, Try.ntmps56
  by_cases hlen : a.length = b.length
  · have e1 : ((a.length : Int) != (b.length : Int)) = false := by simp [hlen]
    have hL := Lib.hid hlen
    clear hlen
    go_wp2
    go_loopw [13] (fun i wr => ∃ k : Nat, k ≤ a.length ∧ i = .int .i64 k ∧ Hid (∀ i (hi : i < a.length) (hj : i < b.length), i < k → idEq a[i] b[i] = true) ∧ ∃ n, wr = w.drewN n) (fun i _ => a.length - (intOf i).toNat)
    case atStart => exact ⟨0, Nat.zero_le _, rfl, Lib.hid (fun i h h' h'' => by omega), 0, rfl⟩
    case round =>
      obtain ⟨k, hk, rfl, hall, n, rfl⟩ := hrel
      by_cases hlt : k < a.length
      · have hlt2 : k < b.length := by rw [← hL.out]; exact hlt
        obtain ⟨b1, o1, rfl, hab, x0, x1, x2⟩ := hA k hlt
        obtain ⟨b2, o2, rfl, hab', y0, y1, y2⟩ := hB k hlt2
        have s4 : (0 : Int) ≤ (k : Int) := by omega
        have s6 : (k : Int) < (a.length : Int) := by omega
        have s7 : (k : Int) < (b.length : Int) := by omega
        have hck := Lib.hid (show idEq a[k] b[k] = (a[k].r == b[k].r && (a[k].l == b[k].l && a[k].i == b[k].i)) from rfl)
        generalize a[k].r = r1 at x0 hck
        generalize a[k].l = l1 at x1 hck
        generalize a[k].i = i1 at x2 hck
        generalize b[k].r = r2 at y0 hck
        generalize b[k].l = l2 at y1 hck
        generalize b[k].i = i2 at y2 hck
        have hno := Lib.hid (fun h => idsEq_no (a := a) (b := b) hlt hlt2 h)
        cases hid : (r1 == r2 && (l1 == l2 && i1 == i2))
        · have hn := Lib.hid (hno.out (hck.out.trans hid))
          have hq := neqId hid
          clear hid
          go_wp2
          go_quiet (fail)
          go_wp2
          go_ret
          exact ⟨by rw [hn.out]; rfl, _, by rw [World.drewN_drewN]⟩
        · have hH := Lib.hid (hck.out.trans hid)
          have hq := neqId hid
          clear hid
          go_wp2
          go_quiet (fail)
          go_wp2
          go_roundw
          case rel =>
            refine ⟨k + 1, by omega, by go_num, Lib.hid (fun i hi hj h' => ?_), _, rfl⟩
            by_cases hik : i < k
            · exact hall.out i hi hj hik
            · obtain rfl : i = k := by omega
              exact hH.out
          case measure => simp [intOf]; omega
      · have hy := Lib.hid (idsEq_yes hL.out (fun i hi hj => hall.out i hi hj (by omega)))
        go_wp2
        go_ret
        exact ⟨by rw [hy.out]; rfl, _, rfl⟩
  · have e1 : ((a.length : Int) != (b.length : Int)) = true := by simp; omega
    have hres := Lib.hid (show idsEq a b = false by simp [idsEq, hlen])
    clear hlen
    go_wp2
    go_ret
    exact ⟨by rw [hres.out]; rfl, 0, rfl⟩
set_option maxHeartbeats 1000000 in
theorem implSameMesh (ra rb : Int) (A B : Option Addr) (a b : List IdR) (c d : Nat) (v : Bool) (w : World) (hA : RdId w A a) (hB : RdId w B b) (hl : a.length ≤ 1000000000000000) (hl2 : b.length ≤ 1000000000000000) (h : sameMesh ra a rb b = v) :
    Calls Try.prog 35 #[.agg #[.int .i64 ra, .slice A a.length c], .agg #[.int .i64 rb, .slice B b.length d]] w fun e w' => e = .returned (.bool v) ∧ Below w.heap.size w w' := by
  subst h
  unfold sameMesh
  go_enter Try.func35, Try.ntmps35
  have hb0 : Below w.heap.size w ((w.alloc (.cells #[.int .i64 ra, .slice A a.length c] 31)).alloc (.cells #[.int .i64 rb, .slice B b.length d] 31)) := by go_grown
  have rA := hA.on hb0
  have rB := hB.on hb0
  cases he : (ra == rb)
  · go_wp2
    go_ret
    exact ⟨by simp, hb0⟩
  · go_wp2_with (go_at_call 56; refine (implEqualIds A B a b c d _ rA rB hl hl2).mono ?_; rintro e w1 ⟨rfl, n, rfl⟩)
    go_ret
    exact ⟨by simp, below_drewN hb0 _⟩
set_option maxHeartbeats 2000000 in
theorem specSameMesh (ra rb : Int) (A B : Option Addr) (a b : List IdR) (c d : Nat) (v : Bool) (w : World) (hA : RdId w A a) (hB : RdId w B b) (hl : a.length ≤ 1000000000000000) (hl2 : b.length ≤ 1000000000000000) (h : sameMesh ra a rb b = v) :
    Calls Try.prog 68 #[.agg #[.int .i64 ra, .slice A a.length c], .agg #[.int .i64 rb, .slice B b.length d]] w fun e w' => e = .returned (.bool v) ∧ Below w.heap.size w w' := by
  subst h
  unfold sameMesh
  go_enter Try.func68, Try.ntmps68
  have hb0 : Below w.heap.size w ((w.alloc (.cells #[.int .i64 ra, .slice A a.length c] 31)).alloc (.cells #[.int .i64 rb, .slice B b.length d] 31)) := by go_grown
  have rA := hA.on hb0
  have rB := hB.on hb0
  cases he : (ra == rb)
  · have he' : (ra != rb) = true := by simpa using he
    have hE := Lib.hid he
    clear he
    go_wp2
    go_ret
    exact ⟨by simp, hb0⟩
  · have he' : (ra != rb) = false := by simpa using he
    have hE := Lib.hid he
    clear he
    by_cases hlen : a.length = b.length
    · have e1 : ((a.length : Int) != (b.length : Int)) = false := by simp [hlen]
      have hL := Lib.hid hlen
      clear hlen
      have m1 : ((w.alloc (.cells #[.int .i64 ra, .slice A a.length c] 31)).alloc (.cells #[.int .i64 rb, .slice B b.length d] 31)).cell? ⟨w.heap.size, 1, none⟩ = some (.slice A a.length c) := by simp
      have m2 : ((w.alloc (.cells #[.int .i64 ra, .slice A a.length c] 31)).alloc (.cells #[.int .i64 rb, .slice B b.length d] 31)).cell? ⟨w.heap.size + 1, 1, none⟩ = some (.slice B b.length d) := by simp
      go_wp2
      generalize (w.alloc (.cells #[.int .i64 ra, .slice A a.length c] 31)).alloc (.cells #[.int .i64 rb, .slice B b.length d] 31) = W at hb0 rA rB m1 m2 ⊢
      go_loopw [5] (fun i wr => ∃ k : Nat, k ≤ a.length ∧ i = .int .i64 k ∧ Hid (∀ i (hi : i < a.length) (hj : i < b.length), i < k → idEq a[i] b[i] = true) ∧ ∃ n, wr = W.drewN n) (fun i _ => a.length - (intOf i).toNat)
      case atStart => exact ⟨0, Nat.zero_le _, rfl, Lib.hid (fun i h h' h'' => by omega), 0, rfl⟩
      case round =>
        obtain ⟨k, hk, rfl, hall, n, rfl⟩ := hrel
        by_cases hlt : k < a.length
        · have hlt2 : k < b.length := by rw [← hL.out]; exact hlt
          obtain ⟨b1, o1, rfl, hab, x0, x1, x2⟩ := rA k hlt
          obtain ⟨b2, o2, rfl, hab', y0, y1, y2⟩ := rB k hlt2
          have s4 : (0 : Int) ≤ (k : Int) := by omega
          have s6 : (k : Int) < (a.length : Int) := by omega
          have s7 : (k : Int) < (b.length : Int) := by omega
          have hck := Lib.hid (show idEq a[k] b[k] = (a[k].r == b[k].r && (a[k].l == b[k].l && a[k].i == b[k].i)) from rfl)
          generalize a[k].r = r1 at x0 hck
          generalize a[k].l = l1 at x1 hck
          generalize a[k].i = i1 at x2 hck
          generalize b[k].r = r2 at y0 hck
          generalize b[k].l = l2 at y1 hck
          generalize b[k].i = i2 at y2 hck
          have hno := Lib.hid (fun h => idsEq_no (a := a) (b := b) hlt hlt2 h)
          cases hid : (r1 == r2 && (l1 == l2 && i1 == i2))
          · have hn := Lib.hid (hno.out (hck.out.trans hid))
            have hq := neqId hid
            clear hid
            go_wp2
            go_quiet (fail)
            go_wp2
            go_ret
            exact ⟨by rw [hn.out]; rfl, below_drewN (below_drewN hb0 _) _⟩
          · have hH := Lib.hid (hck.out.trans hid)
            have hq := neqId hid
            clear hid
            go_wp2
            go_quiet (fail)
            go_wp2
            go_roundw
            case rel =>
              refine ⟨k + 1, by omega, by go_num, Lib.hid (fun i hi hj h' => ?_), _, rfl⟩
              by_cases hik : i < k
              · exact hall.out i hi hj hik
              · obtain rfl : i = k := by omega
                exact hH.out
            case measure => simp [intOf]; omega
        · have hy := Lib.hid (idsEq_yes hL.out (fun i hi hj => hall.out i hi hj (by omega)))
          go_wp2
          go_ret
          exact ⟨by rw [hy.out]; rfl, below_drewN hb0 _⟩
    · have e1 : ((a.length : Int) != (b.length : Int)) = true := by simp; omega
      have hres := Lib.hid (show idsEq a b = false by simp [idsEq, hlen])
      clear hlen
      go_wp2
      go_ret
      exact ⟨by rw [hres.out]; rfl, hb0⟩
end Go.Proofs.Ythdiilcpelioaaa
