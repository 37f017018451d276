/- The simplex method: what Solve gives. -/
import Derived.Test.YtcdcoeofhnfjdaaDoorSf
namespace Go.Proofs.YtcdcoeofhnfjdaaDoor
open Go Vm
theorem yf6 : Dr 12 1 := w3v (n := 1) (by decide) (by decide)
theorem w3u : Dr 12 (-1) := zp9 yf6
theorem w8f {m n : Nat} {A : Nat → Nat → Rat} {b : Nat → Rat} (hA : ∀ i, i < m → ∀ k, k < n → Dr 12 (A i k)) (hb : ∀ i, i < m → Dr 12 (b i)) : ∀ i, i < m → ∀ k, Dr 12 (lpM m n A b i k) := fun i hi k => by
 unfold lpM
 by_cases c1 : k < n
 ·rw [if_pos c1]; exact hA i hi k c1
 ·rw [if_neg c1]
  by_cases c2 : k < n + m
  ·rw [if_pos c2]; unfold one
   by_cases c3 : i = k - n
   ·rw [if_pos c3]; exact yf6
   ·rw [if_neg c3]; exact zu3 (by decide)
  ·rw [if_neg c2]
   by_cases c3 : k = n + m
   ·rw [if_pos c3]; exact w3u
   ·rw [if_neg c3]; exact hb i hi
theorem w4e {m n : Nat} (hm : m ≤ 6) (hn : n ≤ 6) {A : Nat → Nat → Rat} {b c : Nat → Rat} (hA : ∀ i, i < m → ∀ k, k < n → Dr 12 (A i k)) (hb : ∀ i, i < m → Dr 12 (b i)) (hc : ∀ k, k < n + m + 2 → Dr 12 (c k)) :
  Good (m + 1) (n + m + 2 + 1) 1393 (gM m (n + m + 2) (lpM m n A b) c) := by
 refine w9m (s := 12) (by omega) (fun i hi k hk => ?_) ?_
 ·unfold gM
  by_cases c1 : i < m
  ·rw [if_pos c1]
   by_cases c2 : k < n + m + 2
   ·rw [if_pos c2]; exact w8f hA hb i c1 k
   ·rw [if_neg c2]; exact zu3 (by decide)
  ·rw [if_neg c1]
   by_cases c2 : k < n + m + 2
   ·rw [if_pos c2]; exact zp9 (hc k c2)
   ·rw [if_neg c2]; exact yf6
 ·have h1 : 12 * (n + m + 2 + 1) * (m + 1) ≤ 12 * 15 * 7 := Nat.mul_le_mul (by omega) (by omega)
  omega
theorem wd7 {m n : Nat} : ∀ k, Dr 12 (cx m n k) := fun k => by
 unfold cx
 by_cases e : k = n + m
 ·rw [if_pos e]; exact w3u
 ·rw [if_neg e]; exact zu3 (by decide)
theorem w18 {a : List (List ByteArray)} {bs cs : List Rat} {A : Nat → Nat → Rat} {m n : Nat} (hm : m ≤ 6) (hn : n ≤ 6) (ha : Txt a m n A) (hbl : bs.length = m) (hcl : cs.length = n) (hbo : ∀ r, r ∈ bs → OkR r) (hco : ∀ r, r ∈ cs → OkR r)
  (hA : ∀ i, i < m → ∀ k, k < n → Dr 12 (A i k)) (hb : ∀ i, i < m → Dr 12 (bs.getD i 0)) (hc : ∀ i, i < n → Dr 12 (cs.getD i 0)) (hck : z2c fuel (a, (bs.map rt, cs.map rt)) = some 0) :
  ∃ out, z3l fuel (a, (bs.map rt, cs.map rt)) = some out ∧ Sol m n A (fun j => bs.getD j 0) (fun j => cs.getD j 0) out := by
 have hf := z82 (n := 2 ^ 100) (by decide)
 have la := ha.1
 have e5 : IntKind.i64.wrap ((n : Int) + (m : Int)) = ((n + m : Nat) : Int) := by rw [w64 _ (by omega) (by omega)]; omega
 have e6 : IntKind.i64.wrap (((n + m : Nat) : Int) + 2) = ((n + m + 2 : Nat) : Int) := by rw [w64 _ (by omega) (by omega)]; omega
 have e7 : IntKind.i64.wrap (((n + m : Nat) : Int) + 1) = ((n + m + 1 : Nat) : Int) := by rw [w64 _ (by omega) (by omega)]; omega
 obtain ⟨G, g1, g2⟩ := w89 ha (by omega) (by omega)
 obtain ⟨B, b1, b2⟩ := yo7 bs (by omega) hbo
 have b2 := QF.of b2
 rw [hbl] at b2
 obtain ⟨g, s1, s2⟩ := yd1 (m := m) (n := n) (by omega) (by omega) g2 b2 fuel 0 [] (by omega) (by omega) ⟨rfl, fun i hi => by omega⟩
 have s1 : z1p fuel (a.length : Int) 0 ((cs.map rt).length : Int) (a.length : Int) G B [] [] = some (.exit ((n : Int), (m : Int), G, B, g, bL m (fun j => n + j), ())) := by rw [la, List.length_map, hcl]; exact s1
 have hT0 : ∀ r, r < m → ∀ s, s < n + m + 2 → Dr 1393 (lpM m n A (fun j => bs.getD j 0) r s) := fun r hr s _ => z80 (by omega) (w8f hA hb r hr s)
 obtain ⟨at', f1, f2⟩ := zq9 (K := 1393) (m := m) (n := n) (by omega) (by omega) (Nat.le_refl _) (by omega) (by omega) s2 hT0 (bl := bL m fun j => n + j) fuel 0 (-1) (by omega) (by omega) (.inl ⟨rfl, fun j hj => by omega⟩)
 have f1 : z0i fuel (-1) (m : Int) 0 (n : Int) (m : Int) g (bL m fun j => n + j) = some (.exit (at', (n : Int), (m : Int), g, bL m (fun j => n + j), ())) := f1
 have hgc := w4e hm hn hA hb (c := cst n fun j => cs.getD j 0) fun k _ => by
  unfold cst
  by_cases e : k < n
  ·rw [if_pos e]; exact hc k e
  ·rw [if_neg e]; exact zu3 (by decide)
 have lg := s2.1
 unfold z3l
 rw [hck, Option.bind_some, if_neg (by decide)]
 dsimp only
 rw [g1, Option.bind_some, b1, Option.bind_some, s1]
 dsimp only
 rw [f1]
 dsimp only
 rcases f2 with ⟨rfl, hno⟩ | ⟨p, hp, rfl, hp0, hmin⟩
 ·rw [if_pos (show decide ((-1 : Int) < 0) = true by decide)]
  have := wh0 (K := 1393) hm hn rfl hcl hco hc hgc yg5 (fun i hi => by omega) (fun i hi => hno i hi) hT0 (Nat.le_refl _) (by omega) s2
  exact this
 ·rw [if_neg (show ¬ decide (((p : Nat) : Int) < 0) = true by rw [decide_eq_true_eq]; omega), e5, e7, e6]
  obtain ⟨o1, i1, i2⟩ := w8a
  have hcx : QF (n + m + 1) (cx m n) ((List.replicate (n + m + 1) (false, ([], []))).set (n + m) o1) := ((QF.rep (n + m + 1)).set (by omega) i2).ext fun v _ => rfl
  have lcx := hcx.1
  obtain ⟨l, h1, h2⟩ := gnF (L := n + m + 1) (C := n + m + 2) (by omega) (by omega) hcx fuel 0 (List.replicate (n + m + 2) (false, ([], []))) (by omega) (by omega) ((QF.rep (n + m + 2)).ext fun j hj => by rw [if_neg (by omega)])
  have h1 : z0f fuel (((List.replicate (n + m + 1) ((false, ([], [])) : Qd)).set (n + m) o1).length : Int) 0 (List.replicate (n + m + 2) ((false, ([], [])) : Qd)) ((List.replicate (n + m + 1) ((false, ([], [])) : Qd)).set (n + m) o1) = some (.exit (l, (List.replicate (n + m + 1) ((false, ([], [])) : Qd)).set (n + m) o1, ())) := by rw [lcx]; exact h1
  have ltk : (g.take m).length = m := by rw [List.length_take]; omega
  have lb := z5a (m := m) (β := fun j => n + j)
  have hgx := w4e hm hn hA hb (c := cx m n) fun k _ => wd7 k
  have hgl : QG (m + 1) (n + m + 2) (gl m (cx m n) (fun j => n + j) (lpM m n A fun j => bs.getD j 0) 0) (g.take m ++ [l]) := by
   have h0 : QG m (n + m + 2) (gl m (cx m n) (fun j => n + j) (lpM m n A fun j => bs.getD j 0) 0) (g.take m) := (s2.take (Nat.le_refl _)).ext fun r hr s _ => by unfold gl; rw [if_neg (by omega)]
   refine h0.snoc (h2.ext fun s hs => ?_)
   unfold gl
   rw [if_pos rfl]
   show (if s < n + m + 1 then -(cx m n s) else 0) = -(cx m n s) - 0
   by_cases e : s < n + m + 1
   ·rw [if_pos e]; grind
   ·rw [if_neg e]; unfold cx; rw [if_neg (by omega)]; grind
  obtain ⟨g3, q1, q2⟩ := goF (m := m) (n := n) (N := n + m + 2) (K := 1393) (by omega) (by omega) (by omega) (yg5 (m := m) (n := n) (A := A) (b := fun j => bs.getD j 0)) (fun j hj => by omega) (fun s _ => z80 (by omega) (wd7 s)) hT0 fuel 0 _ (by omega) (by omega) hgl
  have q1 : z09 fuel ((g.take m).length) ((bL m fun j => n + j).length : Int) 0 (n : Int) (m : Int) (g.take m ++ [l]) (bL m fun j => n + j) = some (.exit ((n : Int), (m : Int), g3, bL m (fun j => n + j), ())) := by rw [ltk, lb]; exact q1
  have hM : ∀ i, i < m → ∀ j, j < m → lpM m n A (fun j => bs.getD j 0) i (n + j) = one i j := fun i _ j hj => ya0 hj
  have htab := w62 (n := n) (cx m n) (yg5 (m := m) (n := n) (A := A) (b := fun j => bs.getD j 0)) (by omega) hM (fun i hi => by omega)
  have hne : gol m (cx m n) (fun j => n + j) (lpM m n A fun j => bs.getD j 0) p (n + m) ≠ 0 := by
   unfold gol; rw [if_neg (by omega), w9u]; decide
  have htab' := htab.pivot (by omega) hM hp (show n + m < n + m + 2 by omega) hne
  obtain ⟨g4, g5, v1, v2, v3⟩ := pvB (u := (n : Int)) (v := (m : Int)) (bl := bL m fun j => n + j) (p := p) (k := n + m) (R := m + 1) (C := n + m + 2) (by omega) (by omega) (K := 1393) (by omega) (by omega) (by omega) hne (htab.dr hgx) (htab'.dr hgx) q2 (m := fuel) (by omega)
  have hpos' : ∀ i, i < m → 0 ≤ piv p (n + m) (gol m (cx m n) (fun j => n + j) (lpM m n A fun j => bs.getD j 0)) i (n + m + 1) := fun i hi => by
   have ge : ∀ r, r < m → ∀ s, gol m (cx m n) (fun j => n + j) (lpM m n A fun j => bs.getD j 0) r s = lpM m n A (fun j => bs.getD j 0) r s := fun r hr s => by unfold gol; rw [if_neg (by omega)]
   unfold piv
   rw [ge i hi, ge p hp, ge p hp, ge i hi, w9u, w9u]
   have hm1 := hmin i hi
   by_cases e : i = p
   ·rw [if_pos e]; grind
   ·rw [if_neg e]; grind
  have hch : Chain m n (n + m + 2) (n + m + 1) (n + m + 1) (lpM m n A fun j => bs.getD j 0) (cx m n) 0 (fun _ => ub p (n + m) fun j => n + j) (fun _ => piv p (n + m) (gol m (cx m n) (fun j => n + j) (lpM m n A fun j => bs.getD j 0))) (fun _ => 0) (fun _ => 0) :=
   ⟨fun _ _ => htab', fun _ _ i hi => hpos' i hi, fun _ _ i hi => by
     show ub p (n + m) (fun j => n + j) i < n + m + 1
     unfold ub
     by_cases e : i = p
     · rw [if_pos e]; omega
     · rw [if_neg e]; show n + i < n + m + 1; omega, fun j hj => by omega, fun j hj => by omega, fun j hj => by omega, fun j hj => by omega⟩
  have hp2 : 2 ^ (n + m + 1) ≤ 2 ^ 13 := Nat.pow_le_pow_right (by decide) (by omega)
  obtain ⟨r, β', T', g', r1, r2, r3, r4, r5, r6⟩ := runC (K := 1393) (m := m) (n := n) (cols := n + m + 1) (by omega) (by omega) (by omega) hM hgx (by omega) fuel 0 _ _ _ _ hch (by omega) g5 v3
  have r6 : r = -1 ∧ ∀ q, q < n + m + 1 → 0 ≤ T' m q := by
   rcases r6 with h | ⟨q, _, hq1, hq2, hq3⟩
   ·exact h
   ·exact (w28 r2 hq1 hq2 hq3).elim
  have hdr := r2.dr hgx
  have lg' := r5.1
  have lrow := (r5.2 m (by omega)).1
  have lb' := z5a (m := m) (β := β')
  have lg3 := q2.1
  have lrp := (q2.2 p (by omega)).1
  have qs := (r5.2 m (by omega)).at (i := n + m + 1) (by omega)
  have hl0 : (List.replicate (n + m + 1) ((false, ([], [])) : Qd)).length = n + m + 1 := List.length_replicate
  simp only [Int.toNat_natCast]
  rw [if_pos (show (0 : Int) ≤ ((n + m + 1 : Nat) : Int) by omega), if_pos (Int.le_refl _), if_pos (show ((n + m + 1 : Nat) : Int) * 56 ≤ 281474976710656 by omega), i1, Option.bind_some, if_pos (show (0 : Int) ≤ ((n + m : Nat) : Int) by omega), if_pos (show ((n + m : Nat) : Int) < (((List.replicate (n + m + 1) ((false, ([], [])) : Qd)).length : Nat) : Int) by omega),
    if_pos (show (0 : Int) ≤ ((n + m + 2 : Nat) : Int) by omega), if_pos (Int.le_refl _), if_pos (show ((n + m + 2 : Nat) : Int) * 56 ≤ 281474976710656 by omega), h1]
  dsimp only
  rw [if_pos (show (0 : Int) ≤ (m : Int) by omega), if_pos (show (m : Int) ≤ ((g.length : Nat) : Int) by omega), if_pos (show ((g.take m).length + 1) * 24 ≤ 140737488355328 by omega), q1]
  dsimp only
  rw [if_pos (show (0 : Int) ≤ (p : Int) by omega), if_pos (show (p : Int) < ((g3.length : Nat) : Int) by omega), if_pos (show (0 : Int) ≤ ((n + m : Nat) : Int) by omega), if_pos (show ((n + m : Nat) : Int) < (((g3.getD p ([] : List Qd)).length : Nat) : Int) by omega), if_pos (show (0 : Int) ≤ (p : Int) by omega), if_pos (show (p : Int) < ((g3.length : Nat) : Int) by omega), v1]
  dsimp only
  rw [v2]
  dsimp only
  rw [if_pos (show (0 : Int) ≤ (p : Int) by omega), if_pos (show (p : Int) < (((bL m fun j => n + j).length : Nat) : Int) by omega), yz0 hp, r1]
  dsimp only
  simp only [Int.toNat_natCast]
  rw [if_pos (show (0 : Int) ≤ (m : Int) by omega), if_pos (show (m : Int) < ((g'.length : Nat) : Int) by omega), y9d (by omega) (by omega), Option.bind_some, if_pos (show (0 : Int) ≤ ((n + m + 1 : Nat) : Int) by omega), if_pos (show ((n + m + 1 : Nat) : Int) < (((g'.getD m ([] : List Qd)).length : Nat) : Int) by omega)]
  simp only [Int.toNat_natCast]
  rw [z8f qs, Option.bind_some]
  by_cases hv : T' m (n + m + 1) < 0
  ·obtain ⟨n1, n2, n3⟩ := w9y r2 r6.2 hv
   have hy := w8n (r5.2 m (by omega)) (a := n) (k := m) (by omega)
   have hres := yx1 (K := 1393) hy (by omega) (by omega) (by omega) (fun j hj => hdr m (by omega) _ (by omega))
   rw [if_pos (by rw [decide_eq_true_eq]; exact zc4.2 hv), if_pos (show (0 : Int) ≤ (m : Int) by omega), if_pos (show (m : Int) < ((g'.length : Nat) : Int) by omega), e5, if_pos (show (0 : Int) ≤ ((n + m : Nat) : Int) by omega), if_pos (show ((n + m : Nat) : Int) ≤ (((g'.getD m ([] : List Qd)).length : Nat) : Int) by omega), if_pos (show (0 : Int) ≤ (n : Int) by omega), if_pos (show (n : Int) ≤ ((n + m : Nat) : Int) by omega)]
   simp only [Int.toNat_natCast]
   rw [hres, Option.bind_some]
   exact ⟨_, rfl, .inr (.inl ⟨_, fun j hj => ⟨z80 (by omega) (hdr m (by omega) _ (by omega)), n1 j hj⟩, n2, n3, rfl⟩)⟩
  ·obtain ⟨β2, T2, g6, d1, d2, d3, d4, d5⟩ := y8k (K := 1393) (m := m) (n := n) (by omega) (by omega) (by omega) hgx fuel 0 β' T' g' (by omega) (by omega) r2 r3 hv r4 (fun j hj => by omega) r5
   have d1 : z0s fuel ((n + m : Nat) : Int) ((bL m β').length : Int) 0 (n : Int) (m : Int) (bL m β') g' = some (.exit ((n : Int), (m : Int), bL m β2, g6, ())) := by rw [lb']; exact d1
   rw [if_neg (by rw [decide_eq_true_eq]; exact fun h => hv (zc4.1 h)), d1]
   dsimp only
   have := wh0 (K := 1393) hm hn rfl hcl hco hc hgc d2.bas d4 d3 (fun r hr s hs => d2.dr hgx r (by omega) s hs) (R := m + 1) (by omega) (by omega) d5
   exact this
end Go.Proofs.YtcdcoeofhnfjdaaDoor
