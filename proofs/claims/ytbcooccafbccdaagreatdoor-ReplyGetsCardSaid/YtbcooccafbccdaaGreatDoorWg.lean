/- What best does, loop by loop. -/
import Derived.Test.YtbcooccafbccdaaGreatDoorWf
namespace Go.Proofs.YtbcooccafbccdaaGreatDoor
open Go Vm
theorem vals_loop {t : List Nd} (hv : V t) (hm : Mod t) {p : Int} {b : List Int} (hbl : b.length = t.length) {N : Nat} (hN : N ≤ 1000) (hb : ∀ y, 0 ≤ b.getD y 0 ∧ b.getD y 0 < (N : Int)) {C : Nat → Rat} (hC : ∀ y, y < t.length → Dr (12 * y + 1) (C y)) {qs : List Qd} (hq : QF t.length C qs)
  (hd : ∀ i, i ≤ t.length → ∀ k, Dr 1000 (vl t p b C i k)) : ∀ (m i : Nat) (vs : List Qd), i ≤ t.length → t.length < m + i → QF N (vl t p b C i) vs →
  ∃ vs', l_reply_best_7 m p t (t.length : Int) (i : Int) b qs vs = some (.exit (vs', b, qs, ())) ∧ QF N (vl t p b C t.length) vs'
 | 0, i, vs, h1, h2, _ => by omega
 | m + 1, i, vs, h1, h2, h => by
  have hql := hq.1
  have hvl := h.1
  have hl := hm.len
  simp only [l_reply_best_7]
  by_cases hj : i < t.length
  ·have e4 : IntKind.i64.wrap ((i : Int) + 1) = ((i + 1 : Nat) : Int) := by rw [w64 _ (by omega) (by omega)]; omega
   rw [if_pos (by simpa using hj), if_pos (by omega), if_pos (by omega), Int.toNat_natCast, e4, show t.getD i (0, (0, (0, ([], ([], ByteArray.empty))))) = nd t i from rfl]
   have succ : ∀ k, vl t p b C (i + 1) k = vl t p b C i k + if (b.getD i 0).toNat = k then sgp p * et t C i else 0 := fun k => by unfold vl; rw [fs]
   by_cases c0 : (nd t i).1 = 0
   ·obtain ⟨p1, p2, p3⟩ := pz_ok hv hm hj c0
    obtain ⟨z, hz, hqz⟩ := in_ok p2
    obtain ⟨y, hy, hqy⟩ := qmul_ok (hq.at hj) hqz (hC i hj) p3 (by omega)
    have he : et t C i = C i * pz t i := by unfold et; rw [if_pos c0]
    have hde := et_dr hv hm hC hj
    obtain ⟨b0, b1⟩ := hb i
    obtain ⟨k, ek⟩ := Int.eq_ofNat_of_zero_le b0
    have hkN : k < N := by omega
    rw [if_neg (by rw [bne_iff_ne]; simpa using c0), if_pos (by omega), if_pos (by omega), p1, hz, Option.bind_some, hy, Option.bind_some]
    have fin : ∀ x : Qd, QR (sgp p * et t C i) x → ∃ vs', (f_rat_Q_Add fuel ((vs.getD k (false, ([], []))).1, ((vs.getD k (false, ([], []))).2)) x).bind (fun r4 => l_reply_best_7 m p t (t.length : Int) ((i + 1 : Nat) : Int) b qs (vs.set k r4)) = some (.exit (vs', b, qs, ())) ∧ QF N (vl t p b C t.length) vs' := by
     intro x hx
     have hdx : Dr 500 (sgp p * et t C i) := by
      rw [sgp_mul]
      split
      ·exact ⟨by rw [Rat.neg_num, Int.natAbs_neg]; exact hde.1, by rw [Rat.neg_den]; exact hde.2⟩
      ·exact hde
     obtain ⟨w, hw, hqw⟩ := qadd_ok (h.at hkN) hx (hd i (by omega) k) hdx (by decide)
     rw [hw, Option.bind_some]
     refine vals_loop hv hm hbl hN hb hC hq hd m (i + 1) _ (by omega) (by omega) ((h.set hkN hqw).ext fun j hj' => ?_)
     rw [succ j, ek, Int.toNat_natCast]
     by_cases e : j = k
     ·rw [if_pos e, if_pos e.symm, e]
     ·rw [if_neg e, if_neg (fun e' => e e'.symm), Rat.add_zero]
    by_cases hp1 : p = 1
    ·obtain ⟨x, hx, hqx⟩ := qneg_ok hqy
     rw [if_pos (beq_iff_eq.2 hp1), hx, Option.bind_some, if_pos (by omega), if_pos (by omega), if_pos (by omega), if_pos (by omega), if_pos (by omega), if_pos (by omega)]
     have k0 : (0 : Int) ≤ (k : Int) := by omega
     have k1 : (k : Int) < (vs.length : Int) := by omega
     simp only [ek, Int.toNat_natCast, if_pos k0, if_pos k1]
     exact fin x (by rw [sgp_mul, if_pos hp1, he]; exact hqx)
    ·rw [if_neg (fun h => hp1 (beq_iff_eq.1 h)), if_pos (by omega), if_pos (by omega), if_pos (by omega), if_pos (by omega), if_pos (by omega), if_pos (by omega)]
     have k0 : (0 : Int) ≤ (k : Int) := by omega
     have k1 : (k : Int) < (vs.length : Int) := by omega
     simp only [ek, Int.toNat_natCast, if_pos k0, if_pos k1]
     exact fin y (by rw [sgp_mul, if_neg hp1, he]; exact hqy)
   ·rw [if_pos (by rw [bne_iff_ne]; exact c0)]
    refine vals_loop hv hm hbl hN hb hC hq hd m (i + 1) vs (by omega) (by omega) (h.ext fun k _ => ?_)
    rw [succ k, show et t C i = 0 by unfold et; rw [if_neg c0], Rat.mul_zero]
    split <;> rw [Rat.add_zero]
  ·rw [if_neg (by simpa using hj)]
   have : i = t.length := by omega
   subst this
   exact ⟨vs, rfl, h⟩
theorem first_loop (pre post : List Bk) (q : Bk) (hs : tot (pre ++ q :: post) ≤ 10000) : ∀ (c m : Nat), c < q.2.1 → c < m → l_reply_best_20 m ((tot pre + 1 + c : Nat) : Int) (sqs (pre ++ q :: post)) = some (.exit (((tot pre + 1 : Nat) : Int), sqs (pre ++ q :: post), ()))
 | c, 0, h1, h2 => by omega
 | c, m + 1, h1, h2 => by
  have hl := sqs_length (pre ++ q :: post)
  have ht : tot (pre ++ q :: post) = tot pre + (q.2.1 + tot post) := by rw [tot_append, tot_cons]
  have hat := sqs_at pre post q c h1
  rw [show tot pre + c + 1 = tot pre + 1 + c by omega] at hat
  simp only [l_reply_best_20]
  rw [if_pos (by omega), if_pos (by omega), Int.toNat_natCast, hat]
  cases c with
  | zero => rw [if_neg (by simp)]
  | succ c =>
   rw [if_pos (by rw [decide_eq_true_eq]; show ((c + 1 : Nat) : Int) > 0; omega), w64 _ (by omega) (by omega), show ((tot pre + 1 + (c + 1) : Nat) : Int) - 1 = ((tot pre + 1 + c : Nat) : Int) by omega]
   exact first_loop pre post q hs c m (by omega) (by omega)
theorem top_loop {N : Nat} {v : Nat → Rat} {vs : List Qd} (hq : QF N v vs) (hd : ∀ k, k < N → Dr 1000 (v k)) (hN : N ≤ 1000) (F L : Nat) (hL : L ≤ N) : ∀ (m k top : Nat), F ≤ k → k ≤ L → L < m + k → F ≤ top → top < L → (∀ j, F ≤ j → j < k → v j ≤ v top) →
  ∃ top', F ≤ top' ∧ top' < L ∧ (∀ j, F ≤ j → j < L → v j ≤ v top') ∧ l_reply_best_24 m (L : Int) (top : Int) (k : Int) vs = some (.exit ((top' : Int), vs, ()))
 | 0, k, top, _, _, h3, _, _, _ => by omega
 | m + 1, k, top, h1, h2, h3, h4, h5, h6 => by
  have hql := hq.1
  simp only [l_reply_best_24]
  by_cases hk : k < L
  ·have e4 : IntKind.i64.wrap ((k : Int) + 1) = ((k + 1 : Nat) : Int) := by rw [w64 _ (by omega) (by omega)]; omega
   rw [if_pos (by simpa using hk), if_pos (by omega), if_pos (by omega), if_pos (by omega), if_pos (by omega), Int.toNat_natCast, Int.toNat_natCast, e4,
     qcmp_ok (hq.at (show k < N by omega)) (hq.at (show top < N by omega)) (hd k (by omega)) (hd top (by omega)) (by decide), Option.bind_some]
   by_cases c : v k ≤ v top
   ·have : ¬ (v k - v top).num.sign > 0 := by
     have := npos_num.2 (show v k - v top ≤ 0 by grind)
     omega
    rw [if_neg (by rw [decide_eq_true_eq]; exact this)]
    refine top_loop hq hd hN F L hL m (k + 1) top (by omega) (by omega) (by omega) h4 h5 fun j g1 g2 => ?_
    by_cases e : j = k
    ·rw [e]; exact c
    ·exact h6 j g1 (by omega)
   ·have : (v k - v top).num.sign > 0 := by
     refine Int.not_le.1 fun h => c ?_
     have := npos_num.1 h
     grind
    rw [if_pos (by rw [decide_eq_true_eq]; exact this)]
    refine top_loop hq hd hN F L hL m (k + 1) k (by omega) (by omega) (by omega) h1 hk fun j g1 g2 => ?_
    by_cases e : j = k
    ·rw [e]; exact Rat.le_refl
    ·have := h6 j g1 (by omega)
     grind
  ·rw [if_neg (by simpa using hk)]
   have : k = L := by omega
   subst this
   exact ⟨top, h4, h5, h6, rfl⟩
def ptx (w c : Nat) : List ByteArray := (List.range w).map fun k => if k = c then rt 1 else rt 0
theorem ptx_succ (w c : Nat) : ptx (w + 1) c = ptx w c ++ [if w = c then rt 1 else rt 0] := by
 unfold ptx; rw [List.range_succ, List.map_append, List.map_singleton]
theorem pure_loop (x : Int) (w c : Nat) (hw : w ≤ 1000) (hc : c ≤ 1000) : ∀ (m k : Nat), k ≤ w → w < m + k → l_reply_pure_3 m (c : Int) (w : Int) (k : Int) x (ptx k c) = some (.exit (x, ptx w c, ()))
 | 0, k, h1, h2 => by omega
 | m + 1, k, h1, h2 => by
  have hl : (ptx k c).length = k := by unfold ptx; rw [List.length_map, List.length_range]
  simp only [l_reply_pure_3]
  by_cases hk : k < w
  ·have e4 : IntKind.i64.wrap ((k : Int) + 1) = ((k + 1 : Nat) : Int) := by rw [w64 _ (by omega) (by omega)]; omega
   have ih := pure_loop x w c hw hc m (k + 1) (by omega) (by omega)
   rw [ptx_succ] at ih
   rw [if_pos (by simpa using hk), e4]
   by_cases e : k = c
   ·rw [if_pos (beq_iff_eq.2 (by omega)), if_pos (by omega), rt_one]
    rw [if_pos e] at ih
    exact ih
   ·rw [if_neg (by rw [beq_iff_eq]; omega), if_pos (by omega), rt_zero]
    rw [if_neg e] at ih
    exact ih
  ·rw [if_neg (by simpa using hk)]
   have : k = w := by omega
   subst this
   rfl
theorem pure_ok (x : Int) (w c : Nat) (hw : w ≤ 1000) (hc : c ≤ 1000) : f_reply_pure fuel x (w : Int) (c : Int) = some (x, ptx w c) := by
 have hf := fuel_ge (n := 2 ^ 100) (by decide)
 have g := pure_loop x w c hw hc fuel 0 (by omega) (by omega)
 have g : l_reply_pure_3 fuel (c : Int) (w : Int) 0 x [] = _ := g
 unfold f_reply_pure
 rw [g]
def og (g : Int → Option Nat) (r : Int × Nat) : Ch := match g r.1 with
 | some c => (r.1, ptx r.2 c)
 | none => (0, [])
def gset (g : Int → Option Nat) (x : Int) (c : Nat) : Int → Option Nat := fun y => if y = x then some c else g y
theorem infos_loop {t : List Nd} {p : Int} (hw : ∀ r, r ∈ sets t p 10 → r.2 ≤ 6) (pre post : List Bk) (q : Bk) (hq : 0 < q.2.1) (hs : tot (pre ++ q :: post) ≤ 10000) (c : Nat) (hc : c < 1000) (g : Int → Option Nat) : ∀ (m i : Nat) (out : List Ch), i ≤ (sets t p 10).length → (sets t p 10).length < m + i → out.length = (sets t p 10).length →
  (∀ j, j < (sets t p 10).length → out.getD j c0 = og (if j < i then gset g q.1 c else g) ((sets t p 10).getD j (0, 0))) →
  l_reply_best_31 m ((tot pre + 1 : Nat) : Int) ((tot pre + 1 + c : Nat) : Int) ((sets t p 10).length : Int) (i : Int) (sqs (pre ++ q :: post)) (zs ((sets t p 10).map (·.2))) out ((sets t p 10).map (·.1)) =
   some (.exit (sqs (pre ++ q :: post), zs ((sets t p 10).map (·.2)), (sets t p 10).map (og (gset g q.1 c)), (sets t p 10).map (·.1), ()))
 | 0, i, out, h1, h2, _, _ => by omega
 | m + 1, i, out, h1, h2, h3, h4 => by
  have h10 := sets_length t p 10
  have hl := sqs_length (pre ++ q :: post)
  have ht : tot (pre ++ q :: post) = tot pre + (q.2.1 + tot post) := by rw [tot_append, tot_cons]
  have hat := sqs_at pre post q 0 hq
  rw [Nat.add_zero] at hat
  simp only [l_reply_best_31]
  by_cases hi : i < (sets t p 10).length
  ·have e4 : IntKind.i64.wrap ((i : Int) + 1) = ((i + 1 : Nat) : Int) := by rw [w64 _ (by omega) (by omega)]; omega
   have hin : ((sets t p 10).map (·.1)).getD i 0 = ((sets t p 10).getD i (0, 0)).1 := by
    rw [getD_eq _ i _ (by rw [List.length_map]; exact hi), List.getElem_map, getD_eq _ i _ hi]
   have hwd : (zs ((sets t p 10).map (·.2))).getD i 0 = (((sets t p 10).getD i (0, 0)).2 : Int) := by
    rw [getD_zs, getD_eq _ i _ (by rw [List.length_map]; exact hi), List.getElem_map, getD_eq _ i _ hi]
   have hmem : (sets t p 10).getD i (0, 0) ∈ sets t p 10 := by rw [getD_eq _ i _ hi]; exact List.getElem_mem hi
   have hw6 := hw _ hmem
   rw [if_pos (by simpa using hi), if_pos (by omega), if_pos (by rw [List.length_map]; omega), if_pos (by omega), if_pos (by omega), Int.toNat_natCast, Int.toNat_natCast, hat, hin, e4]
   generalize hx : (sets t p 10).getD i (0, 0) = r at *
   by_cases e : r.1 = q.1
   ·rw [if_pos (beq_iff_eq.2 e), if_pos (by omega), if_pos (by rw [length_zs, List.length_map]; omega), hwd, w64 _ (by omega) (by omega), show ((tot pre + 1 + c : Nat) : Int) - ((tot pre + 1 : Nat) : Int) = (c : Int) by omega, pure_ok _ _ _ (by omega) (by omega), Option.bind_some, if_pos (by omega), if_pos (by omega)]
    refine infos_loop hw pre post q hq hs c hc g m (i + 1) _ (by omega) (by omega) (by rw [List.length_set]; exact h3) fun j hj => ?_
    by_cases ej : j = i
    ·subst ej
     rw [getD_set_eq' _ _ _ _ (by omega), if_pos (by omega), hx]
     unfold og gset
     rw [if_pos e]
    ·rw [getD_set_ne' _ _ _ _ _ (fun e => ej e.symm), h4 j hj]
     by_cases ej2 : j < i
     ·rw [if_pos ej2, if_pos (by omega)]
     ·rw [if_neg ej2, if_neg (by omega)]
   ·rw [if_neg (fun h => e (beq_iff_eq.1 h))]
    refine infos_loop hw pre post q hq hs c hc g m (i + 1) _ (by omega) (by omega) h3 fun j hj => ?_
    rw [h4 j hj]
    by_cases ej : j = i
    ·subst ej
     rw [if_neg (by omega), if_pos (by omega), hx]
     unfold og gset
     rw [if_neg e]
    ·by_cases ej2 : j < i
     ·rw [if_pos ej2, if_pos (by omega)]
     ·rw [if_neg ej2, if_neg (by omega)]
  ·rw [if_neg (by simpa using hi)]
   have : out = (sets t p 10).map (og (gset g q.1 c)) := by
    refine List.ext_getElem (by rw [List.length_map]; exact h3) fun j g1 g2 => ?_
    have := h4 j (by omega)
    rw [getD_eq out j _ g1, if_pos (by omega), getD_eq _ j _ (by omega)] at this
    rw [this, List.getElem_map]
   rw [this]
end Go.Proofs.YtbcooccafbccdaaGreatDoor
