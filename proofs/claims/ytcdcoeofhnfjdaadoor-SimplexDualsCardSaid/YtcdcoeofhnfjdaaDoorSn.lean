/- The simplex method: a problem and its dual. -/
import Derived.Test.YtcdcoeofhnfjdaaDoorSm
namespace Go.Proofs.YtcdcoeofhnfjdaaDoor
open Go Vm
theorem y6x {rs : List Rat} (hl : rs.length ≤ 1000) (ho : ∀ r, r ∈ rs → OkR r) : ∀ (f i : Nat), i ≤ rs.length → rs.length < f + i →
  z2s f (rs.map rt) (rs.length : Int) (i : Int) (((rs.take i).map fun r => -r).map rt) = some (.exit ((rs.map fun r => -r).map rt, ()))
 | 0, i, h1, h2 => by omega
 | f + 1, i, h1, h2 => by
  simp only [z2s, List.length_map]
  by_cases hi : i < rs.length
  ·have e4 : IntKind.i64.wrap ((i : Int) + 1) = ((i + 1 : Nat) : Int) := by rw [w64 _ (by omega) (by omega)]; omega
   have e5 : (((rs.take i).map fun r => -r).map rt) ++ [rt (-(rs.getD i 0))] = ((rs.take (i + 1)).map fun r => -r).map rt := by
    rw [List.take_add_one, List.getElem?_eq_getElem hi, z36 rs i 0 hi, List.map_append, List.map_append]; rfl
   have hlt : (rs.take i).length = i := by rw [List.length_take]; omega
   rw [if_pos (by simpa using hi), if_pos (by omega), if_pos (by omega), Int.toNat_natCast, w9l hi, w5i (w58 ho hi), Option.bind_some, if_neg (by simp), if_pos (by omega), e4]
   dsimp only
   rw [e5]
   exact y6x hl ho f (i + 1) (by omega) (by omega)
  ·rw [if_neg (by simpa using hi)]
   have : i = rs.length := by omega
   subst this
   rw [List.take_length]
theorem y5o {rs : List Rat} (hl : rs.length ≤ 1000) (ho : ∀ r, r ∈ rs → OkR r) : z33 fuel (rs.map rt) = some ((rs.map fun r => -r).map rt, true) := by
 unfold z33
 have h := y6x hl ho fuel 0 (by omega) (by have := z82 (n := 2 ^ 100) (by decide); omega)
 have h : z2s fuel (rs.map rt) (rs.length : Int) 0 [] = _ := h
 rw [List.length_map, h]
theorem yb6 {R C : Nat} (hR : R ≤ 100) (hC : C ≤ 100) {M : Nat → Nat → Rat} (ho : ∀ i, i < R → ∀ j, j < C → OkR (M i j)) : ∀ (f i : Nat), i ≤ R → R < f + i →
  z1s f (R : Int) (i : Int) (mt i C fun r c => -(M r c)) (mt R C M) = some (.exit (mt R C (fun r c => -(M r c)), mt R C M, ()))
 | 0, i, h1, h2 => by omega
 | f + 1, i, h1, h2 => by
  have l1 := zr6 R C M
  have l2 := zr6 i C (fun r c => -(M r c))
  simp only [z1s]
  by_cases hi : i < R
  ·have e4 : IntKind.i64.wrap ((i : Int) + 1) = ((i + 1 : Nat) : Int) := by rw [w64 _ (by omega) (by omega)]; omega
   have e5 : mt i C (fun r c => -(M r c)) ++ [((((List.range C).map (M i)).map fun r => -r).map rt)] = mt (i + 1) C fun r c => -(M r c) := by
    unfold mt
    rw [List.range_succ, List.map_append, List.map_singleton, List.map_map (l := List.range C)]
    rfl
   rw [if_pos (by simpa using hi), if_pos (by omega), if_pos (by omega), Int.toNat_natCast, w52 hi, y5o (by rw [List.length_map, List.length_range]; omega) (fun r hr => by
     obtain ⟨j, hj, rfl⟩ := List.mem_map.1 hr
     exact ho i hi j (List.mem_range.1 hj)), Option.bind_some, if_neg (by simp), if_pos (by omega), e4]
   dsimp only
   rw [e5]
   exact yb6 hR hC ho f (i + 1) (by omega) (by omega)
  ·rw [if_neg (by simpa using hi)]
   have : i = R := by omega
   subst this
   rfl
theorem w5r {m n : Nat} {A : Nat → Nat → Rat} {a : List (List ByteArray)} {bs cs : List Rat} (hm : m ≤ 40) (hn : n ≤ 40) (ha : Txt a m n A) (h0 : 0 < m) (hb : bs.length = m) (hc : cs.length = n) (ho : ∀ r, r ∈ bs → OkR r) (ho' : ∀ r, r ∈ cs → OkR r) : z2c fuel (a, (bs.map rt, cs.map rt)) = some 0 := by
 have la := ha.1
 unfold z2c
 dsimp only
 rw [List.length_map, List.length_map, if_pos (by rw [decide_eq_false_iff_not]; omega), if_neg (by rw [decide_eq_true_eq]; omega), yn2 ha hm hn, Option.bind_some, if_neg (by decide), y8a (by omega) ho, Option.bind_some, if_neg (by decide), y8a (by omega) ho', Option.bind_some, if_neg (by decide),
   if_pos (by rw [bne_eq_false_iff_eq]; omega), if_pos (by rw [decide_eq_true_eq]; omega), y9l ha (by omega), Option.bind_some, if_neg (by rw [bne_iff_ne]; omega)]
theorem y7l {rs : List Rat} (i : Nat) : (rs.map fun r => -r).getD i 0 = -(rs.getD i 0) := by
 rw [List.getD_eq_getElem?_getD, List.getD_eq_getElem?_getD, List.getElem?_map]
 cases rs[i]? with
 | none => show (0 : Rat) = -0; grind
 | some r => rfl
theorem w6s {m n : Nat} {A : Nat → Nat → Rat} {b c b' c' : Nat → Rat} (hb : ∀ i, b' i = -(c i)) (hc : ∀ i, c' i = -(b i)) {out : _} (h : Sol n m (fun i j => -(A j i)) b' c' out) :
  (∃ (x y : Nat → Rat) (w : Rat), (∀ j, j < n → 0 ≤ x j) ∧ (∀ j, j < m → 0 ≤ y j) ∧ (∀ i, i < m → fs (fun k => A i k * x k) n ≤ b i) ∧ (∀ k, k < n → c k ≤ fs (fun j => y j * A j k) m) ∧ fs (fun j => c j * x j) n = -w ∧ fs (fun j => y j * b j) m = -w ∧ out.2 = 0 ∧ out.1.1 = 0 ∧ out.1.2.2.2.2 = rt w) ∨
  (∃ x : Nat → Rat, (∀ j, j < n → 0 ≤ x j) ∧ (∀ i, i < m → fs (fun k => A i k * x k) n ≤ 0) ∧ 0 < fs (fun j => c j * x j) n ∧ out.2 = 0 ∧ out.1.1 = 1) ∨
  (∃ y z : Nat → Rat, (∀ j, j < m → 0 ≤ y j) ∧ (∀ j, j < m → 0 ≤ z j) ∧ (∀ k, k < n → c k ≤ fs (fun j => y j * A j k) m) ∧ (∀ k, k < n → 0 ≤ fs (fun j => z j * A j k) m) ∧ fs (fun j => z j * b j) m < 0 ∧ out.2 = 0 ∧ out.1.1 = 2) := by
 have n1 : ∀ (f g : Nat → Rat) (k : Nat), fs (fun j => -(f j) * g j) k = -(fs (fun j => g j * f j) k) := fun f g k => by
  rw [← y8t]; exact z1r fun j _ => by grind
 have n2 : ∀ (f g : Nat → Rat) (k : Nat), fs (fun j => g j * -(f j)) k = -(fs (fun j => f j * g j) k) := fun f g k => by
  rw [← y8t]; exact z1r fun j _ => by grind
 have n3 : ∀ (f g : Nat → Rat) (k : Nat), fs (fun j => f j * g j) k = fs (fun j => g j * f j) k := fun f g k => z1r fun j _ => Rat.mul_comm _ _
 have eb : b' = fun i => -(c i) := funext hb
 have ec : c' = fun i => -(b i) := funext hc
 subst eb
 subst ec
 rcases h with ⟨x', y', w, hx, hy, _, k1, k2, k3, k4, rfl⟩ | ⟨y', hy, k1, k2, rfl⟩ | ⟨x', z', hx, hz, k1, k2, k3, rfl⟩
 ·refine .inl ⟨y', x', w, fun j hj => (hy j hj).2, fun j hj => (hx j hj).2, fun i hi => ?_, fun k hk => ?_, ?_, ?_, rfl, rfl, rfl⟩
  ·have := k2 i hi
   rw [n2 (fun j => A i j) y'] at this
   grind
  ·have := k1 k hk
   rw [n1 (fun j => A j k) x'] at this
   grind
  ·rw [n2 c y'] at k4; grind
  ·rw [n1 b x'] at k3; grind
 ·refine .inr (.inl ⟨y', fun j hj => (hy j hj).2, fun i hi => ?_, ?_, rfl, rfl⟩)
  ·have := k1 i hi
   rw [n2 (fun j => A i j) y'] at this
   grind
  ·rw [n2 c y'] at k2; grind
 ·refine .inr (.inr ⟨x', z', fun j hj => (hx j hj).2, fun j hj => (hz j hj).2, fun k hk => ?_, fun k hk => ?_, ?_, rfl, rfl⟩)
  ·have := k1 k hk
   rw [n1 (fun j => A j k) x'] at this
   grind
  ·have := k2 k hk
   rw [n1 (fun j => A j k) z'] at this
   grind
  ·rw [n1 b z'] at k3; grind
theorem wi7 : z81 fuel [0, 0, 0] = some true := by kernel_rfl
theorem w1s (a : List (List ByteArray)) (b c : List ByteArray) (ha : WM a) (hb : WV b) (hc : WV c) : z3h fuel (a, (b, c)) = some true := by
 have hf := z82 (n := 2 ^ 100) (by decide)
 unfold z3h
 dsimp only
 rw [y7b, Option.bind_some, if_neg (by decide)]
 obtain ⟨r, hr, hs⟩ := w2n (l := [a, [b, c]]) (by simp) (fun v hv => by
   rcases List.mem_cons.1 hv with rfl | hv
   · exact ha
   · rw [List.mem_singleton] at hv; subst hv
     exact wb9 (by simp) fun v hv => by
       rcases List.mem_cons.1 hv with rfl | hv
       · exact hb
       · rw [List.mem_singleton] at hv; subst hv; exact hc) 5
 have hr : z4a fuel 5 [a, [b, c]] = some r := hr
 rw [hr, Option.bind_some]
 cases r with
 | false => rw [if_neg (by decide)]
 | true =>
  have hs := hs rfl
  rw [if_pos (by decide)]
  rcases yx8 (N := 5) (by omega) ha hb hc (hs a (by simp)) (hs [b, c] (by simp)) (by simp) (by simp) rfl rfl with ⟨e, e0, h1, h2⟩ | ⟨bs, cs, m, n, A, out, rfl, rfl, hm, hn, hp, dA, db, dc, h2, hS⟩
  ·rw [h1, Option.bind_some, if_neg (by simpa using e0)]
  ·have la := hp.ha.1
   rw [hp.ck, Option.bind_some, if_pos (by decide)]
   by_cases m0 : m = 0
   ·rw [if_neg (by rw [beq_eq_false_iff_ne]; omega)]
   ·rw [if_pos (by rw [beq_eq_false_iff_ne]; omega)]
    by_cases n0 : n = 0
    ·rw [if_pos (by rw [beq_iff_eq, List.length_map, hp.cl]; omega)]
    ·rw [if_neg (by rw [beq_iff_eq, List.length_map, hp.cl]; omega), w7u hp.ha hp.hm hp.hn (by omega), Option.bind_some]
     dsimp only
     have oA : ∀ i, i < n → ∀ j, j < m → OkR (A j i) := fun i hi j hj => (hp.ha.2 j hj).2 i hi
     have hd := yb6 (R := n) (C := m) (M := fun i j => A j i) (by omega) (by omega) oA fuel 0 (by omega) (by omega)
     have hd : z1s fuel (n : Int) 0 [] (mt n m fun i j => A j i) = some (.exit (mt n m (fun r c => -(A c r)), mt n m (fun i j => A j i), ())) := hd
     have ob : ∀ r, r ∈ bs.map (fun r => -r) → OkR r := fun r hr => by
      obtain ⟨q, hq, rfl⟩ := List.mem_map.1 hr
      exact yw1 (hp.bo q hq)
     have oc : ∀ r, r ∈ cs.map (fun r => -r) → OkR r := fun r hr => by
      obtain ⟨q, hq, rfl⟩ := List.mem_map.1 hr
      exact yw1 (hp.co q hq)
     have hT : Txt (mt n m fun r c => -(A c r)) n m (fun r c => -(A c r)) := wh2 fun i hi j hj => yw1 (oA i hi j hj)
     have lb : (bs.map fun r => -r).length = m := by rw [List.length_map, hp.bl]
     have lc : (cs.map fun r => -r).length = n := by rw [List.length_map, hp.cl]
     have hck := w5r (by omega) (by omega) hT (by omega) lc lb oc ob
     obtain ⟨out', o1, o2⟩ := w18 (m := n) (n := m) (by omega) (by omega) hT lc lb oc ob (fun i hi k hk => zp9 (dA k hk i hi)) (fun i hi => by rw [y7l]; exact zp9 (dc i hi)) (fun i hi => by rw [y7l]; exact zp9 (db i hi)) hck
     have o3 := w6s (A := A) (b := fun j => bs.getD j 0) (c := fun j => cs.getD j 0) (fun i => y7l i) (fun i => y7l i) o2
     rw [zr6, hd]
     dsimp only
     rw [y5o (by rw [hp.cl]; omega) hp.co, Option.bind_some, y5o (by rw [hp.bl]; omega) hp.bo, Option.bind_some, h2, Option.bind_some]
     dsimp only
     rw [o1, Option.bind_some]
     have e1 : out.2 = 0 := by
      rcases hS with ⟨_, _, _, _, _, _, _, _, _, _, rfl⟩ | ⟨_, _, _, _, rfl⟩ | ⟨_, _, _, _, _, _, _, rfl⟩ <;> rfl
     have e2 : out'.2 = 0 := by
      rcases o3 with ⟨_, _, _, _, _, _, _, _, _, h, _⟩ | ⟨_, _, _, _, h, _⟩ | ⟨_, _, _, _, _, _, _, h, _⟩ <;> exact h
     rw [e1, e2, wi7, Option.bind_some, if_pos (by decide), if_pos (by decide), if_neg (by decide)]
     have z1 : ∀ f : Nat → Rat, ∀ k, fs (fun j => (0 : Rat) * f j) k = 0 := fun f k => by rw [z1r (g := fun _ => 0) fun j _ => Rat.zero_mul _, z43]
     have z2 : ∀ f : Nat → Rat, ∀ k, fs (fun j => f j * (0 : Rat)) k = 0 := fun f k => by rw [z1r (g := fun _ => 0) fun j _ => Rat.mul_zero _, z43]
     rcases hS with ⟨x, y, v, hx, hy, hv, k1, k2, k3, k4, rfl⟩ | ⟨y, hy, k1, k2, rfl⟩ | ⟨x, z, hx, hz, k1, k2, k3, rfl⟩
     ·have hx := fun j hj => (hx j hj).2
      have hy := fun j hj => (hy j hj).2
      rw [if_pos (show ((0 : Int) == 0) = true by decide), w5i (yl3 hv (by decide) (by decide)), Option.bind_some, if_pos (show ((0 : Int) == 0) = true by decide)]
      rcases o3 with ⟨X, Y, w, hX, hY, j1, j2, j3, j4, _, j5, j6⟩ | ⟨X, hX, j1, j2, _, _⟩ | ⟨Y, Z, hY, hZ, j1, j2, j3, _, _⟩
      ·rw [if_pos (by rw [j5]; decide), j6]
       have w1 := weak hx hY k1 j2
       have w2 := weak hX hy j1 k2
       have : w = -v := by grind
       rw [this]; simp
      ·have := weak (b := fun _ => 0) hX hy j1 k2
       rw [z2] at this
       exact absurd j2 (by grind)
      ·have := weak (c := fun _ => 0) hx hZ k1 j2
       rw [z1] at this
       exact absurd j3 (by grind)
     ·have hy := fun j hj => (hy j hj).2
      rw [if_neg (show ¬ ((1 : Int) == 0) = true by decide), if_neg (show ¬ ((1 : Int) == 2) = true by decide)]
      rcases o3 with ⟨X, Y, w, hX, hY, j1, j2, j3, j4, _, j5, j6⟩ | ⟨X, hX, j1, j2, _, j5⟩ | ⟨Y, Z, hY, hZ, j1, j2, j3, _, j5⟩
      ·have := weak (c := fun _ => 0) hX hy j1 k1
       rw [z1] at this
       exact absurd k2 (by grind)
      ·rw [j5]; rfl
      ·rw [j5]; rfl
     ·have hz := fun j hj => (hz j hj).2
      rw [if_neg (show ¬ ((2 : Int) == 0) = true by decide), if_pos (show ((2 : Int) == 2) = true by decide)]
      rcases o3 with ⟨X, Y, w, hX, hY, j1, j2, j3, j4, _, j5, j6⟩ | ⟨X, hX, j1, j2, _, j5⟩ | ⟨Y, Z, hY, hZ, j1, j2, j3, _, j5⟩
      ·have := weak (b := fun _ => 0) hz hY k2 j2
       rw [z2] at this
       exact absurd k3 (by grind)
      ·rw [j5]; rfl
      ·have := weak (b := fun _ => 0) hz hY k2 j1
       rw [z2] at this
       exact absurd k3 (by grind)
theorem simplexDuals_plain : ∀ x : List (List ByteArray) × (List ByteArray × List ByteArray), WfL [.pair (.slice (.slice .str)) (.pair (.slice .str) (.slice .str))] x → z3h fuel x = some true :=
 fun x h => w1s x.1 x.2.1 x.2.2 (wj9 h.1) (wh5 h.2.1) (wh5 h.2.2)
end Go.Proofs.YtcdcoeofhnfjdaaDoor
