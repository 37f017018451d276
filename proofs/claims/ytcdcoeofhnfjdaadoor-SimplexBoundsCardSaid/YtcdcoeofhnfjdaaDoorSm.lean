/- The simplex method: no vector that satisfies all conditions has a greater value. -/
import Derived.Test.YtcdcoeofhnfjdaaDoorSl
import Derived.Test.YtcdcoeofhnfjdaaDoorXd
namespace Go.Proofs.YtcdcoeofhnfjdaaDoor
open Go Vm
theorem weak {m n : Nat} {A : Nat → Nat → Rat} {b c x y : Nat → Rat} (hx : ∀ k, k < n → 0 ≤ x k) (hy : ∀ j, j < m → 0 ≤ y j) (h1 : ∀ i, i < m → fs (fun k => A i k * x k) n ≤ b i) (h2 : ∀ k, k < n → c k ≤ fs (fun j => y j * A j k) m) :
  fs (fun k => c k * x k) n ≤ fs (fun j => y j * b j) m := by
 have e1 : fs (fun k => c k * x k) n ≤ fs (fun k => fs (fun j => y j * A j k * x k) m) n := w9z fun k hk => by
  rw [y5x (fun j => y j * A j k) (x k) m]
  exact Rat.mul_le_mul_of_nonneg_right (h2 k hk) (hx k hk)
 have e2 : fs (fun k => fs (fun j => y j * A j k * x k) m) n = fs (fun j => fs (fun k => y j * A j k * x k) n) m := y5w (fun k j => y j * A j k * x k) m n
 have e3 : fs (fun j => fs (fun k => y j * A j k * x k) n) m ≤ fs (fun j => y j * b j) m := w9z fun j hj => by
  have : fs (fun k => y j * A j k * x k) n = y j * fs (fun k => A j k * x k) n := by
   rw [← zk1]
   exact z24 fun k _ => Rat.mul_assoc _ _ _
  rw [this]
  exact Rat.mul_le_mul_of_nonneg_left (h1 j hj) (hy j hj)
 rw [e2] at e1
 exact Rat.le_trans e1 e3
theorem w6n : z6m fuel [] = some 0 := rfl
theorem w26 {vs : List Rat} (hl : vs.length ≤ 40) (ho : ∀ r, r ∈ vs → OkR r) : z52 fuel [] (vs.map rt) = some ([], 0) := by
 have hf := z79 (n := 2 ^ 100) (by decide)
 have ha : Txt [] 0 0 (fun _ _ => 0) := ⟨rfl, fun i hi => by omega⟩
 obtain ⟨qs, r1, r2⟩ := y54 vs (by omega) ho
 have r3 := QF.of r2
 obtain ⟨g, g1, g2⟩ := w0w (C := vs.length) (M := fun _ _ => 0) (R := 0) (a := []) ⟨rfl, fun i hi => by omega⟩ (by omega) (by omega)
 obtain ⟨out, o1, o2⟩ := y5k (R := 0) (M := fun _ _ => 0) (by omega) hl g2 r3 (fun i hi => by omega) (fun j hj => y2n (y7b ho hj)) fuel 0 [] (by omega) (by omega) ⟨rfl, fun i hi => by omega⟩
 have o1 : z3g fuel qs ((0 : Nat) : Int) 0 [] g = _ := o1
 have hout : out = [] := List.eq_nil_of_length_eq_zero o2.1
 have e3 : z4b fuel [] = some ([], 0) := y50 (K := 1) (w1d fun _ => 0) (by omega) (by omega) (by omega) (fun i hi => by omega)
 unfold z52
 rw [yo9 ha (by omega) (by omega), Option.bind_some, if_neg (by decide), y2z hl ho, Option.bind_some, if_neg (by decide), w6n, Option.bind_some]
 by_cases z : ((0 : Int) != (((vs.map rt).length : Nat) : Int)) = true
 ·rw [if_pos z, if_neg (by decide), r1, Option.bind_some, g1, Option.bind_some, g2.1, o1]
  dsimp only
  rw [hout, e3]; rfl
 ·rw [if_neg z, r1, Option.bind_some, g1, Option.bind_some, g2.1, o1]
  dsimp only
  rw [hout, e3]; rfl
theorem wf4 {us vs : List Rat} {n : Nat} (hn : n ≤ 40) (hu : us.length = n) (hv : vs.length = n) (ho : ∀ r, r ∈ us → OkR r) (ho' : ∀ r, r ∈ vs → OkR r) (h : OkR (fs (fun j => us.getD j 0 * vs.getD j 0) n)) : zm4 fuel (us.map rt) (vs.map rt) = some (rt (fs (fun j => us.getD j 0 * vs.getD j 0) n), 0) := by
 obtain ⟨qu, a1, a2⟩ := y54 us (by omega) ho
 obtain ⟨qv, b1, b2⟩ := y54 vs (by omega) ho'
 have a3 := QF.of a2
 have b3 := QF.of b2
 rw [hu] at a3
 rw [hv] at b3
 have du : ∀ i, i < n → Dr 2000 (us.getD i 0) := fun i hi => y2n (y7b ho (by omega))
 have dv : ∀ i, i < n → Dr 2000 (vs.getD i 0) := fun i hi => y2n (y7b ho' (by omega))
 obtain ⟨q, c1, c2⟩ := yd8 hn a3 b3 du dv
 have dd := wk1 hn du dv
 unfold zm4
 rw [y2z (by omega) ho, Option.bind_some, if_neg (by decide), y2z (by omega) ho', Option.bind_some, if_neg (by decide), if_neg (by rw [bne_iff_ne, List.length_map, List.length_map, hu, hv]; simp), a1, Option.bind_some, b1, Option.bind_some, c1, Option.bind_some, y91 c2 dd (by omega), if_pos h, Option.bind_some, if_neg (by decide), w5r c2 dd (by omega), Option.bind_some]
theorem yw4 {rs : List Rat} {i : Nat} (hi : i < rs.length) {d : ByteArray} : (rs.map rt).getD i d = rt (rs.getD i 0) := by
 rw [List.getD_eq_getElem?_getD, List.getD_eq_getElem?_getD, List.getElem?_map, List.getElem?_eq_getElem hi]; rfl
theorem yc2 {ys bs : List Rat} {m : Nat} (hm : m ≤ 100) (hy : ys.length = m) (hb : bs.length = m) (hyo : ∀ r, r ∈ ys → OkR r) (hbo : ∀ r, r ∈ bs → OkR r) (a : List (List ByteArray)) (c : List ByteArray) : ∀ (f i : Nat), i ≤ m → m < f + i → (∀ j, j < i → ys.getD j 0 ≤ bs.getD j 0) →
  (z12 f (m : Int) (i : Int) a (bs.map rt) c (ys.map rt) = some (.exit (a, bs.map rt, c, ys.map rt, ())) ∧ ∀ j, j < m → ys.getD j 0 ≤ bs.getD j 0) ∨ z12 f (m : Int) (i : Int) a (bs.map rt) c (ys.map rt) = some (.ret (true, a, bs.map rt, c, ys.map rt, ()))
 | 0, i, h1, h2, _ => by omega
 | f + 1, i, h1, h2, h3 => by
  simp only [z12, List.length_map]
  by_cases hi : i < m
  ·have e4 : IntKind.i64.wrap ((i : Int) + 1) = ((i + 1 : Nat) : Int) := by rw [w64 _ (by omega) (by omega)]; omega
   rw [if_pos (by simpa using hi), if_pos (by omega), if_pos (by omega), if_pos (by omega), if_pos (by omega), Int.toNat_natCast, yw4 (by omega), yw4 (by omega), y9l (y7b hyo (by omega)) (y7b hbo (by omega)), Option.bind_some, if_pos (by simp), e4]
   by_cases c : ys.getD i 0 ≤ bs.getD i 0
   ·have := (y7z (r := ys.getD i 0 - bs.getD i 0)).2 (by grind)
    rw [if_neg (show ¬ decide ((ys.getD i 0 - bs.getD i 0).num.sign > 0) = true by rw [decide_eq_true_eq]; omega)]
    refine yc2 hm hy hb hyo hbo a _ f (i + 1) (by omega) (by omega) fun j hj => ?_
    by_cases e : j = i
    ·subst e; exact c
    ·exact h3 j (by omega)
   ·have := (w1p (r := ys.getD i 0 - bs.getD i 0)).2 (by grind)
    rw [if_pos (show decide ((ys.getD i 0 - bs.getD i 0).num.sign > 0) = true by rw [decide_eq_true_eq]; omega)]
    exact .inr rfl
  ·rw [if_neg (by simpa using hi)]
   have : i = m := by omega
   subst this
   exact .inl ⟨rfl, h3⟩
theorem y8m {xs : List Rat} {n : Nat} (hn : n ≤ 100) (hx : xs.length = n) (hxo : ∀ r, r ∈ xs → OkR r) : ∀ (f i : Nat), i ≤ n → n < f + i → (∀ j, j < i → 0 ≤ xs.getD j 0) →
  (z13 f (xs.map rt) (n : Int) (i : Int) = some (.exit ()) ∧ ∀ j, j < n → 0 ≤ xs.getD j 0) ∨ z13 f (xs.map rt) (n : Int) (i : Int) = some (.ret (true, ()))
 | 0, i, h1, h2, _ => by omega
 | f + 1, i, h1, h2, h3 => by
  simp only [z13, List.length_map]
  by_cases hi : i < n
  ·have e4 : IntKind.i64.wrap ((i : Int) + 1) = ((i + 1 : Nat) : Int) := by rw [w64 _ (by omega) (by omega)]; omega
   rw [if_pos (by simpa using hi), if_pos (by omega), if_pos (by omega), Int.toNat_natCast, yw4 (by omega), w7y (y7b hxo (by omega)), Option.bind_some, if_pos (by simp), e4]
   by_cases c : 0 ≤ xs.getD i 0
   ·rw [if_neg (show ¬ decide ((xs.getD i 0).num.sign < 0) = true by rw [decide_eq_true_eq]; exact y1d.2 c)]
    refine y8m hn hx hxo f (i + 1) (by omega) (by omega) fun j hj => ?_
    by_cases e : j = i
    ·subst e; exact c
    ·exact h3 j (by omega)
   ·rw [if_pos (show decide ((xs.getD i 0).num.sign < 0) = true by rw [decide_eq_true_eq]; exact z9t.2 (by grind))]
    exact .inr rfl
  ·rw [if_neg (by simpa using hi)]
   have : i = n := by omega
   subst this
   exact .inl ⟨rfl, h3⟩
theorem wk0 : z88 fuel [0, 0] = some true := by kernel_rfl
theorem w8k {n : Nat} (hn : n ≤ 6) {f g : Nat → Rat} (hf : ∀ i, i < n → Dr 12 (f i)) (hg : ∀ i, i < n → Dr 12 (g i)) : OkR (fs (fun i => f i * g i) n) := by
 have d1 : Dr ((12 + 12 + 1) * n + 1) (fs (fun i => f i * g i) n) := w2b fun j hj => zx0 (hf j (by omega)) (hg j (by omega))
 have hd : (12 + 12 + 1) * n ≤ (12 + 12 + 1) * 6 := Nat.mul_le_mul_left _ (by omega)
 exact yc8 d1 (by omega) (by omega)
theorem yu3 (a : List (List ByteArray)) (b c x : List ByteArray) (ha : WM a) (hb : WV b) (hc : WV c) (hx : WV x) : z3b fuel (a, (b, c)) x = some true := by
 have hf := z79 (n := 2 ^ 100) (by decide)
 unfold z3b
 dsimp only
 rw [y7q, Option.bind_some, if_neg (by decide)]
 obtain ⟨r, hr, hs⟩ := w36 (l := [a, [b, c, x]]) (by simp) (fun v hv => by
   rcases List.mem_cons.1 hv with rfl | hv
   · exact ha
   · rw [List.mem_singleton] at hv; subst hv
     exact wd2 (by simp) fun v hv => by
       rcases List.mem_cons.1 hv with rfl | hv
       · exact hb
       · rcases List.mem_cons.1 hv with rfl | hv
         · exact hc
         · rw [List.mem_singleton] at hv; subst hv; exact hx) 5
 have hr : z4a fuel 5 [a, [b, c, x]] = some r := hr
 rw [hr, Option.bind_some]
 cases r with
 | false => rw [if_neg (by decide)]
 | true =>
  have hs := hs rfl
  have s2 := hs [b, c, x] (by simp)
  rw [if_pos (by decide)]
  by_cases hxl : x.length = c.length
  ·rw [if_neg (by rw [bne_iff_ne]; omega)]
   rcases yz7 (N := 5) (by omega) ha hb hc (hs a (by simp)) s2 (by simp) (by simp) rfl rfl with ⟨e, e0, h1, h2⟩ | ⟨bs, cs, m, n, A, out, rfl, rfl, hm, hn, hp, dA, db, dc, h2, hS⟩
   ·rw [h2, Option.bind_some, if_neg (by simpa using e0)]
   ·rw [h2, Option.bind_some]
    have e0 : out.2 = 0 := by
     rcases hS with ⟨_, _, _, _, _, _, _, _, _, _, rfl⟩ | ⟨_, _, _, _, rfl⟩ | ⟨_, _, _, _, _, _, _, rfl⟩ <;> rfl
    rw [if_pos (by rw [e0]; rfl)]
    rcases z9h x (Nat.le_trans hx.1 (by decide)) hx.2 with ⟨e, e1, g⟩ | ⟨g, x40, xs, rfl, hxo⟩
    ·rw [g, Option.bind_some, if_pos (by simpa using e1)]
    ·have lx : xs.length = n := by rw [List.length_map, List.length_map, hp.cl] at hxl; exact hxl
     obtain ⟨_, dx⟩ := yi9 s2 (i := 2) (by simp) rfl
     rw [lx] at dx
     have okd : OkR (fs (fun j => cs.getD j 0 * xs.getD j 0) n) := w8k (by omega) dc dx
     have oky : ∀ i, i < m → OkR (fs (fun j => A i j * xs.getD j 0) n) := fun i hi => w8k (by omega) (dA i hi) dx
     have hap : z52 fuel a (xs.map rt) = some (((List.range m).map fun i => fs (fun j => A i j * xs.getD j 0) n).map rt, 0) := by
      by_cases z : m = 0
      ·have : a = [] := List.eq_nil_of_length_eq_zero (by rw [hp.ha.1, z])
       rw [this, w26 (by omega) hxo, z]; rfl
      ·rcases w6v hp.ha hp.hm hp.hn (by omega) lx hxo with ⟨⟨i, hi, hno⟩, _⟩ | ⟨_, h⟩
       ·exact absurd (oky i hi) hno
       ·exact h
     have ly : ((List.range m).map fun i => fs (fun j => A i j * xs.getD j 0) n).length = m := by rw [List.length_map, List.length_range]
     have hyo : ∀ r, r ∈ (List.range m).map (fun i => fs (fun j => A i j * xs.getD j 0) n) → OkR r := fun r hr => by
      obtain ⟨i, hi, rfl⟩ := List.mem_map.1 hr
      exact oky i (List.mem_range.1 hi)
     rw [g, Option.bind_some, if_neg (by decide), hap, Option.bind_some, wf4 (by have := hp.hn; omega) hp.cl lx hp.co hxo okd, Option.bind_some]
     dsimp only
     rw [wk0, Option.bind_some, if_neg (by decide), List.length_map, ly]
     rcases yc2 (m := m) (by omega) ly hp.bl hyo hp.bo a (cs.map rt) fuel 0 (by omega) (by omega) (fun j hj => by omega) with ⟨k1, k2⟩ | k1
     ·have k1 : z12 fuel (m : Int) 0 a (bs.map rt) (cs.map rt) (((List.range m).map fun i => fs (fun j => A i j * xs.getD j 0) n).map rt) = _ := k1
      rw [k1]
      dsimp only
      rw [List.length_map, lx]
      rcases y8m (n := n) (by omega) lx hxo fuel 0 (by omega) (by omega) (fun j hj => by omega) with ⟨k3, k4⟩ | k3
      ·have k3 : z13 fuel (xs.map rt) (n : Int) 0 = _ := k3
       rw [k3]
       dsimp only
       have hAx : ∀ i, i < m → fs (fun k => A i k * xs.getD k 0) n ≤ bs.getD i 0 := fun i hi => by
        have := k2 i hi
        rw [zb4 hi] at this; exact this
       rcases hS with ⟨x', y, v, _, hy, hv, _, h4, _, h6, rfl⟩ | ⟨y, hy, h4, h5, rfl⟩ | ⟨_, _, _, _, _, _, _, rfl⟩
       ·have := weak k4 (fun j hj => (hy j hj).2) hAx h4
        rw [h6] at this
        rw [if_neg (show ¬ ((0 : Int) != 0) = true by decide), y9l okd (yc8 hv (by decide) (by decide)), Option.bind_some, if_pos (by simp)]
        rw [decide_eq_true (y7z.2 (by grind))]
       ·have := weak (c := fun _ => 0) k4 (fun j hj => (hy j hj).2) hAx h4
        have z : fs (fun k => (0 : Rat) * xs.getD k 0) n = 0 := by rw [z24 (g := fun _ => 0) fun j _ => Rat.zero_mul _, z4d]
        rw [z] at this
        exact absurd h5 (by grind)
       ·rfl
      ·have k3 : z13 fuel (xs.map rt) (n : Int) 0 = _ := k3
       rw [k3]
     ·have k1 : z12 fuel (m : Int) 0 a (bs.map rt) (cs.map rt) (((List.range m).map fun i => fs (fun j => A i j * xs.getD j 0) n).map rt) = _ := k1
      rw [k1]
  ·rw [if_pos (by rw [bne_iff_ne]; omega)]
theorem simplexBounds_plain : ∀ x : (List (List ByteArray) × (List ByteArray × List ByteArray)) × List ByteArray, WfL [.pair (.slice (.slice .str)) (.pair (.slice .str) (.slice .str)), .slice .str] x → z3b fuel x.1 x.2 = some true :=
 fun x h => yu3 x.1.1 x.1.2.1 x.1.2.2 x.2 (wl4 h.1.1) (wd4 h.1.2.1) (wd4 h.1.2.2) (wd4 h.2)
end Go.Proofs.YtcdcoeofhnfjdaaDoor
