/- The simplex method: Verify. -/
import Derived.Test.YtcdcoeofhnfjdaaDoorSj
namespace Go.Proofs.YtcdcoeofhnfjdaaDoor
open Go Vm
theorem y9m {n : Nat} (hn : n ≤ 1000) {x : Nat → Rat} (ho : ∀ j, j < n → OkR (x j)) : ∃ qs, z2h fuel (xt n x) = some qs ∧ QF n x qs := by
 obtain ⟨qs, h1, h2⟩ := y9l ((List.range n).map x) (by rw [List.length_map, List.length_range]; omega) (fun r hr => by
   obtain ⟨j, hj, rfl⟩ := List.mem_map.1 hr
   exact ho j (List.mem_range.1 hj))
 have h2 := QF.of h2
 rw [List.length_map, List.length_range] at h2
 exact ⟨qs, h1, h2.ext fun i hi => y00 hi⟩
theorem w2w {n : Nat} (hn : n ≤ 40) {x : Nat → Rat} (ho : ∀ j, j < n → OkR (x j)) : z17 fuel (xt n x) = some 0 :=
 y77 (by rw [List.length_map, List.length_range]; omega) fun r hr => by
  obtain ⟨j, hj, rfl⟩ := List.mem_map.1 hr
  exact ho j (List.mem_range.1 hj)
theorem yw7 : z17 fuel [] = some 0 := y77 (rs := []) (by decide) (fun r hr => by cases hr)
theorem yt9 : z2h fuel [] = some [] := by
 obtain ⟨qs, h1, h2⟩ := y9m (n := 0) (by decide) (x := fun _ => 0) (fun j hj => by omega)
 have : qs = [] := List.eq_nil_of_length_eq_zero h2.1
 rw [this] at h1; exact h1
theorem ys5 : z3f fuel [] = some false := by
 obtain ⟨r, h1, h2⟩ := z9p (n := 0) (by decide) (w02 fun _ => 0)
 rw [h1, h2.2 fun j hj => by omega]
theorem zy8 {n : Nat} {x : Nat → Rat} : (xt n x).length = n := by rw [xt, List.length_map, List.length_map, List.length_range]
theorem y9o {l : List (List ByteArray)} (hl : l.length = 3) (h : ∀ i, i < 3 → z17 fuel (l.getD i []) = some 0) : ∀ (f i : Nat), i ≤ 3 → 3 < f + i → z4y f 3 (i : Int) l = some (.exit (l, ()))
 | 0, i, h1, h2 => by omega
 | f + 1, i, h1, h2 => by
  simp only [z4y]
  by_cases hi : i < 3
  ·have e4 : IntKind.i64.wrap ((i : Int) + 1) = ((i + 1 : Nat) : Int) := by rw [w64 _ (by omega) (by omega)]; omega
   rw [if_pos (by rw [decide_eq_true_eq]; omega), if_pos (by omega), if_pos (by omega), Int.toNat_natCast, h i hi, Option.bind_some, if_neg (by decide), e4]
   exact y9o hl h f (i + 1) (by omega) (by omega)
  ·rw [if_neg (by rw [decide_eq_true_eq]; omega)]
theorem w4y {x y z : List ByteArray} (hx : z17 fuel x = some 0) (hy : z17 fuel y = some 0) (hz : z17 fuel z = some 0) : z4y fuel 3 0 [x, y, z] = some (.exit ([x, y, z], ())) :=
 y9o (l := [x, y, z]) rfl (fun i hi => by
   match i, hi with
   | 0, _ => exact hx
   | 1, _ => exact hy
   | 2, _ => exact hz) fuel 0 (by omega) (by have := z70 (n := 2 ^ 100) (by decide); omega)
structure Prob (m n : Nat) (A : Nat → Nat → Rat) (b c : Nat → Rat) (a : List (List ByteArray)) (bs cs : List Rat) : Prop where
 hm : m ≤ 40
 hn : n ≤ 40
 ha : Txt a m n A
 bl : bs.length = m
 cl : cs.length = n
 bo : ∀ r, r ∈ bs → OkR r
 co : ∀ r, r ∈ cs → OkR r
 eb : b = fun j => bs.getD j 0
 ec : c = fun j => cs.getD j 0
 ck : z2t fuel (a, (bs.map rt, cs.map rt)) = some 0
theorem w7n {rs : List Rat} (ho : ∀ r, r ∈ rs → OkR r) {i : Nat} (hi : i < rs.length) : OkR (rs.getD i 0) := ho _ (by rw [z33 rs i 0 hi]; exact List.getElem_mem _)
section
variable {m n : Nat} {A : Nat → Nat → Rat} {b c : Nat → Rat} {a : List (List ByteArray)} {bs cs : List Rat}
theorem Prob.dA (h : Prob m n A b c a bs cs) : ∀ i, i < m → ∀ k, k < n → Dr 2000 (A i k) := fun i hi k hk => y1d ((h.ha.2 i hi).2 k hk)
theorem Prob.db (h : Prob m n A b c a bs cs) : ∀ i, i < m → Dr 2000 (b i) := fun i hi => by rw [h.eb]; exact y1d (w7n h.bo (by rw [h.bl]; exact hi))
theorem Prob.dc (h : Prob m n A b c a bs cs) : ∀ i, i < n → Dr 2000 (c i) := fun i hi => by rw [h.ec]; exact y1d (w7n h.co (by rw [h.cl]; exact hi))
theorem Prob.rows (h : Prob m n A b c a bs cs) : ∃ g qb qc, z9h fuel a = some g ∧ QG m n A g ∧ z2h fuel (bs.map rt) = some qb ∧ QF m b qb ∧ z2h fuel (cs.map rt) = some qc ∧ QF n c qc := by
 have := h.hm
 have := h.hn
 have e1 := h.bl
 have e2 := h.cl
 obtain ⟨g, g1, g2⟩ := w7c h.ha (by omega) (by omega)
 obtain ⟨qb, b1, b2⟩ := y9l bs (by omega) h.bo
 obtain ⟨qc, c1, c2⟩ := y9l cs (by omega) h.co
 have b2 := QF.of b2
 have c2 := QF.of c2
 rw [e1] at b2
 rw [e2] at c2
 exact ⟨g, qb, qc, g1, g2, b1, by rw [h.eb]; exact b2, c1, by rw [h.ec]; exact c2⟩
theorem yv0 (h : Prob m n A b c a bs cs) {x y : Nat → Rat} {v : Rat} (hx : ∀ j, j < n → OkR (x j)) (hy : ∀ j, j < m → OkR (y j)) (hv : OkR v) :
  ∃ e : Int, z2v fuel (a, (bs.map rt, cs.map rt)) (0, (xt n x, (xt m y, ([], rt v)))) = some e ∧ (e = 0 ∨ e = 16) ∧
   (e = 0 ↔ (∀ j, j < n → 0 ≤ x j) ∧ (∀ j, j < m → 0 ≤ y j) ∧ (∀ i, i < m → fs (fun k => A i k * x k) n ≤ b i) ∧ (∀ k, k < n → c k ≤ fs (fun j => y j * A j k) m) ∧ fs (fun j => c j * x j) n = v ∧ fs (fun j => b j * y j) m = v) := by
 obtain ⟨g, qb, qc, g1, g2, b1, b2, c1, c2⟩ := h.rows
 have hm := h.hm
 have hn := h.hn
 have lc := c2.1
 obtain ⟨qx, x1, x2⟩ := y9m (n := n) (by omega) hx
 obtain ⟨qy, y1, y2⟩ := y9m (n := m) (by omega) hy
 obtain ⟨qv, v1, v2⟩ := wc0 hv
 have dx : ∀ j, j < n → Dr 2000 (x j) := fun j hj => y1d (hx j hj)
 have dy : ∀ j, j < m → Dr 2000 (y j) := fun j hj => y1d (hy j hj)
 obtain ⟨r9, n1, n2⟩ := z9p (by omega) x2
 obtain ⟨r10, n3, n4⟩ := z9p (by omega) y2
 obtain ⟨r13, p1, p2⟩ := yg7 hm hn g2 x2 b2 h.dA dx h.db
 obtain ⟨r14, p3, p4⟩ := w23 hm hn g2 y2 c2 h.dA dy h.dc
 obtain ⟨s1, t1, t2⟩ := zy4 hn c2 x2 h.dc dx
 obtain ⟨s2, t3, t4⟩ := zy4 hm b2 y2 h.db dy
 have u1 := yd4 t2 v2 (w67 hn h.dc dx) (y1d hv) (by omega)
 have u2 := yd4 t4 v2 (w67 hm h.db dy) (y1d hv) (by omega)
 have hsh : z45 fuel (a, (bs.map rt, cs.map rt)) (0, (xt n x, (xt m y, ([], rt v)))) = some 0 := by
  unfold z45
  dsimp only
  rw [w4y (w2w hn hx) (w2w hm hy) yw7]
  dsimp only
  simp only [Int.toNat_zero, List.getD_cons_zero, List.getD_cons_succ]
  rw [if_pos (show decide ((0 : Int) < 0) = false by decide), if_neg (show ¬ decide ((0 : Int) > 2) = true by decide), if_pos (show (0 : Int) ≤ 0 by decide), if_pos (show (0 : Int) < 3 by decide), if_pos (show ((((xt n x).length : Nat) : Int) != (((cs.map rt).length : Nat) : Int)) = false by rw [bne_eq_false_iff_eq, zy8, List.length_map, h.cl]),
    if_pos (show ((((xt m y).length : Nat) : Int) != ((a.length : Nat) : Int)) = false by rw [bne_eq_false_iff_eq, zy8, h.ha.1]), if_neg (show ¬ (((([] : List ByteArray).length : Nat) : Int) != 0) = true by decide), if_pos (by decide), y86 hv, Option.bind_some]
 have e16 : (16 : Int) ≠ 0 := by decide
 unfold z2v
 dsimp only
 rw [h.ck, Option.bind_some, if_neg (by decide), hsh, Option.bind_some, if_neg (by decide), g1, Option.bind_some, b1, Option.bind_some, c1, Option.bind_some, x1, Option.bind_some, y1, Option.bind_some, yt9, Option.bind_some, n1, Option.bind_some]
 cases r9 with
 | true =>
  rw [if_neg (by decide), if_pos (by decide), v1, Option.bind_some]
  exact ⟨16, rfl, .inr rfl, fun h => absurd h e16, fun h => absurd (n2.2 h.1) (by decide)⟩
 | false =>
  rw [if_pos (by decide), n3, Option.bind_some]
  cases r10 with
  | true =>
   rw [if_neg (by decide), if_pos (by decide), v1, Option.bind_some]
   exact ⟨16, rfl, .inr rfl, fun h => absurd h e16, fun h => absurd (n4.2 h.2.1) (by decide)⟩
  | false =>
   rw [if_pos (by decide), ys5, Option.bind_some, if_pos (by decide), v1, Option.bind_some, if_pos (by decide), p1, Option.bind_some]
   cases r13 with
   | false =>
    rw [if_neg (by decide)]
    exact ⟨16, rfl, .inr rfl, fun h => absurd h e16, fun h => absurd (p2.2 h.2.2.1) (by decide)⟩
   | true =>
    rw [if_pos rfl, lc, p3, Option.bind_some]
    cases r14 with
    | false =>
     rw [if_neg (by decide)]
     exact ⟨16, rfl, .inr rfl, fun h => absurd h e16, fun h => absurd (p4.2 h.2.2.2.1) (by decide)⟩
    | true =>
     rw [if_pos rfl, t1, Option.bind_some, u1, Option.bind_some]
     by_cases z1 : fs (fun j => c j * x j) n = v
     ·rw [if_pos (z77.2 (by grind)), t3, Option.bind_some, u2, Option.bind_some]
      by_cases z2 : fs (fun j => b j * y j) m = v
      ·rw [if_neg (by rw [z77.2 (show fs (fun j => b j * y j) m - v = 0 by grind)]; decide)]
       exact ⟨0, rfl, .inl rfl, fun _ => ⟨n2.1 rfl, n4.1 rfl, p2.1 rfl, p4.1 rfl, z1, z2⟩, fun _ => rfl⟩
      ·rw [if_pos (by
         cases hc : ((fs (fun j => b j * y j) m - v).num.sign == 0)
         · rfl
         · exact absurd (z77.1 hc) (fun h => z2 (by grind)))]
       exact ⟨16, rfl, .inr rfl, fun h => absurd h e16, fun h => absurd h.2.2.2.2.2 z2⟩
     ·rw [if_neg fun h => z1 (by have := z77.1 h; grind)]
      exact ⟨16, rfl, .inr rfl, fun h => absurd h e16, fun h => absurd h.2.2.2.2.1 z1⟩
theorem y76 : (!((ByteArray.empty).toList == (⟨#[]⟩ : ByteArray).toList)) = false := w0v ⟨#[]⟩
theorem yv2 (h : Prob m n A b c a bs cs) {y : Nat → Rat} (hy : ∀ j, j < m → OkR (y j)) (k1 : ∀ j, j < m → 0 ≤ y j) (k2 : ∀ k, k < n → 0 ≤ fs (fun j => y j * A j k) m) (k3 : fs (fun j => b j * y j) m < 0) :
  z2v fuel (a, (bs.map rt, cs.map rt)) (1, ([], (xt m y, ([], ByteArray.empty)))) = some 0 := by
 obtain ⟨g, qb, qc, g1, g2, b1, b2, c1, c2⟩ := h.rows
 have hm := h.hm
 have hn := h.hn
 have lc := c2.1
 obtain ⟨qy, y1, y2⟩ := y9m (n := m) (by omega) hy
 have dy : ∀ j, j < m → Dr 2000 (y j) := fun j hj => y1d (hy j hj)
 obtain ⟨r10, n3, n4⟩ := z9p (by omega) y2
 obtain ⟨r14, p3, p4⟩ := ya4 (o := none) (B := fun _ => 0) hm hn g2 y2 (.inr ⟨rfl, fun _ _ => rfl⟩) h.dA dy (fun _ _ => zg0 (by decide))
 obtain ⟨s2, t3, t4⟩ := zy4 hm b2 y2 h.db dy
 have hsh : z45 fuel (a, (bs.map rt, cs.map rt)) (1, ([], (xt m y, ([], ByteArray.empty)))) = some 0 := by
  unfold z45
  dsimp only
  rw [w4y yw7 (w2w hm hy) yw7]
  dsimp only
  simp only [Int.toNat_one, List.getD_cons_zero, List.getD_cons_succ]
  rw [if_pos (show decide ((1 : Int) < 0) = false by decide), if_neg (show ¬ decide ((1 : Int) > 2) = true by decide), if_pos (show (0 : Int) ≤ 1 by decide), if_pos (show (1 : Int) < 3 by decide), if_pos (show (((([] : List ByteArray).length : Nat) : Int) != 0) = false by decide),
    if_pos (show ((((xt m y).length : Nat) : Int) != ((a.length : Nat) : Int)) = false by rw [bne_eq_false_iff_eq, zy8, h.ha.1]), if_neg (show ¬ (((([] : List ByteArray).length : Nat) : Int) != 0) = true by decide), if_neg (by decide), y76, if_neg (by decide)]
 unfold z2v
 dsimp only
 rw [h.ck, Option.bind_some, if_neg (by decide), hsh, Option.bind_some, if_neg (by decide), g1, Option.bind_some, b1, Option.bind_some, c1, Option.bind_some, yt9, Option.bind_some, y1, Option.bind_some, Option.bind_some, ys5, Option.bind_some, if_pos (by decide), n3, Option.bind_some, n4.2 k1, if_pos (by decide), Option.bind_some, if_neg (by decide), if_pos (by decide), if_pos (by decide), lc, p3, Option.bind_some, p4.2 k2, if_pos rfl, t3, Option.bind_some, z4s t4, Option.bind_some, decide_eq_true (z5h.2 k3), if_neg (by decide)]
theorem yv1 (h : Prob m n A b c a bs cs) {x z : Nat → Rat} (hx : ∀ j, j < n → OkR (x j)) (hz : ∀ j, j < n → OkR (z j)) (k1 : ∀ j, j < n → 0 ≤ x j) (k2 : ∀ j, j < n → 0 ≤ z j) (k3 : ∀ i, i < m → fs (fun k => A i k * x k) n ≤ b i) (k4 : ∀ i, i < m → fs (fun k => A i k * z k) n ≤ 0) (k5 : 0 < fs (fun j => c j * z j) n) :
  z2v fuel (a, (bs.map rt, cs.map rt)) (2, (xt n x, ([], (xt n z, ByteArray.empty)))) = some 0 := by
 obtain ⟨g, qb, qc, g1, g2, b1, b2, c1, c2⟩ := h.rows
 have hm := h.hm
 have hn := h.hn
 have lc := c2.1
 obtain ⟨qx, x1, x2⟩ := y9m (n := n) (by omega) hx
 obtain ⟨qz, z1, z2⟩ := y9m (n := n) (by omega) hz
 have dx : ∀ j, j < n → Dr 2000 (x j) := fun j hj => y1d (hx j hj)
 have dz : ∀ j, j < n → Dr 2000 (z j) := fun j hj => y1d (hz j hj)
 obtain ⟨r9, n1, n2⟩ := z9p (by omega) x2
 obtain ⟨r11, n3, n4⟩ := z9p (by omega) z2
 obtain ⟨r13, p1, p2⟩ := yg7 hm hn g2 x2 b2 h.dA dx h.db
 obtain ⟨r14, p3, p4⟩ := yb0 (o := none) (B := fun _ => 0) hm hn g2 z2 (.inr ⟨rfl, fun _ _ => rfl⟩) h.dA dz (fun _ _ => zg0 (by decide))
 obtain ⟨s2, t3, t4⟩ := zy4 hn c2 z2 h.dc dz
 have hsh : z45 fuel (a, (bs.map rt, cs.map rt)) (2, (xt n x, ([], (xt n z, ByteArray.empty)))) = some 0 := by
  unfold z45
  dsimp only
  rw [w4y (w2w hn hx) yw7 (w2w hn hz)]
  dsimp only
  have e2 : Int.toNat 2 = 2 := rfl
  simp only [e2, List.getD_cons_zero, List.getD_cons_succ]
  rw [if_pos (show decide ((2 : Int) < 0) = false by decide), if_neg (show ¬ decide ((2 : Int) > 2) = true by decide), if_pos (show (0 : Int) ≤ 2 by decide), if_pos (show (2 : Int) < 3 by decide), if_pos (show ((((xt n x).length : Nat) : Int) != (((cs.map rt).length : Nat) : Int)) = false by rw [bne_eq_false_iff_eq, zy8, List.length_map, h.cl]),
    if_pos (show (((([] : List ByteArray).length : Nat) : Int) != 0) = false by decide), if_neg (show ¬ ((((xt n z).length : Nat) : Int) != (((cs.map rt).length : Nat) : Int)) = true by rw [bne_iff_ne, zy8, List.length_map, h.cl]; simp), if_neg (by decide), y76, if_neg (by decide)]
 have hp : decide ((fs (fun j => c j * z j) n).num.sign > 0) = true := by
  rw [decide_eq_true_eq]
  have := y6m.2 k5
  omega
 unfold z2v
 dsimp only
 rw [h.ck, Option.bind_some, if_neg (by decide), hsh, Option.bind_some, if_neg (by decide), g1, Option.bind_some, b1, Option.bind_some, c1, Option.bind_some, x1, Option.bind_some, yt9, Option.bind_some, z1, Option.bind_some, n1, Option.bind_some, n2.2 k1, if_pos (by decide), ys5, Option.bind_some, if_pos (by decide), n3, Option.bind_some, n4.2 k2, if_neg (by decide), if_neg (by decide), if_pos (by decide), p1, Option.bind_some, p2.2 k3, if_pos rfl, p3, Option.bind_some, p4.2 k4, if_pos rfl, t3, Option.bind_some, z4s t4, Option.bind_some, hp, if_neg (by decide)]
end
end Go.Proofs.YtcdcoeofhnfjdaaDoor
