/- The value of two strategies, and the probabilities of the nodes. -/
import Derived.Test.YtbcooccafbccdaaGreatDoorWa
namespace Go.Proofs.YtbcooccafbccdaaGreatDoor
open Go Vm
open Classical in
noncomputable def pz (t : List Nd) (i : Nat) : Rat := if h : ∃ r, (nd t i).2.2.2.2.2 = rt r then h.choose else 0
theorem pz_eq {t : List Nd} {i : Nat} {r : Rat} (h : (nd t i).2.2.2.2.2 = rt r) : pz t i = r := by
 have hex : ∃ r, (nd t i).2.2.2.2.2 = rt r := ⟨r, h⟩
 unfold pz
 rw [dif_pos hex]
 exact rt_inj (hex.choose_spec.symm.trans h)
theorem pz_ok {t : List Nd} (hv : V t) (hm : Mod t) {i : Nat} (hi : i < t.length) (h0 : (nd t i).1 = 0) : (nd t i).2.2.2.2.2 = rt (pz t i) ∧ OkR (pz t i) ∧ Dr 12 (pz t i) := by
 rcases hv.good i hi with ⟨_, _, r, hr, ho⟩ | ⟨k1, _⟩ | ⟨k2, _⟩
 ·have e := pz_eq hr
  have h12 := hm.pay i hi
  rw [hr, rt_size] at h12
  rw [e]
  exact ⟨hr, ho, dr_mono h12 (dr_len _)⟩
 ·omega
 ·omega
noncomputable def et (t : List Nd) (R : Nat → Rat) (i : Nat) : Rat := if (nd t i).1 = 0 then R i * pz t i else 0
theorem et_dr {t : List Nd} (hv : V t) (hm : Mod t) {R : Nat → Rat} (hR : ∀ y, y < t.length → Dr (12 * y + 1) (R y)) {i : Nat} (hi : i < t.length) : Dr 500 (et t R i) := by
 have := hm.len
 unfold et
 split
 ·rename_i h0
  exact dr_mono (by omega) (dr_mul (hR i hi) (pz_ok hv hm hi h0).2.2)
 ·exact dr_zero (by decide)
theorem value_loop {t : List Nd} (hv : V t) (hm : Mod t) {R : Nat → Rat} (hR : ∀ y, y < t.length → Dr (12 * y + 1) (R y)) {qs : List Qd} (hq : QF t.length R qs) : ∀ (m i : Nat) (q : Qd), i ≤ t.length → t.length < m + i → QR (fs (et t R) i) q →
  ∃ q' : Qd, l_reply_Value_7 m t (t.length : Int) (i : Int) q.1 q.2.1 q.2.2 qs = some (.exit (q'.1, q'.2.1, q'.2.2, qs, ())) ∧ QR (fs (et t R) t.length) q'
 | 0, i, q, h1, h2, _ => by omega
 | m + 1, i, q, h1, h2, h => by
  have hql := hq.1
  have hl := hm.len
  simp only [l_reply_Value_7]
  by_cases hj : i < t.length
  ·have e4 : IntKind.i64.wrap ((i : Int) + 1) = ((i + 1 : Nat) : Int) := by rw [w64 _ (by omega) (by omega)]; omega
   rw [if_pos (by simpa using hj), if_pos (by omega), if_pos (by omega), Int.toNat_natCast, e4]
   by_cases c0 : (nd t i).1 = 0
   ·obtain ⟨p1, p2, p3⟩ := pz_ok hv hm hj c0
    obtain ⟨z, hz, hqz⟩ := in_ok p2
    obtain ⟨y, hy, hqy⟩ := qmul_ok (hq.at hj) hqz (hR i hj) p3 (by omega)
    have hfs := dr_fs (k := 500) (n := i) fun j hj' => et_dr hv hm hR (show j < t.length by omega)
    have he : et t R i = R i * pz t i := by unfold et; rw [if_pos c0]
    obtain ⟨x, hx, hqx⟩ := qadd_ok h hqy hfs (he ▸ et_dr hv hm hR hj) (by omega)
    have c0' : (t.getD i (0, (0, (0, ([], ([], ByteArray.empty)))))).1 = 0 := c0
    have p1' : (t.getD i (0, (0, (0, ([], ([], ByteArray.empty)))))).2.2.2.2.2 = rt (pz t i) := p1
    have hx' : f_rat_Q_Add fuel (q.1, (q.2.1, q.2.2)) y = some x := hx
    rw [if_pos (beq_iff_eq.2 c0'), if_pos (by omega), if_pos (by omega), p1', hz, Option.bind_some, hy, Option.bind_some, hx', Option.bind_some]
    exact value_loop hv hm hR hq m (i + 1) x (by omega) (by omega) (by rw [fs, he]; exact hqx)
   ·have c0' : ¬ (t.getD i (0, (0, (0, ([], ([], ByteArray.empty)))))).1 = 0 := c0
    rw [if_neg (fun h => c0' (beq_iff_eq.1 h))]
    exact value_loop hv hm hR hq m (i + 1) q (by omega) (by omega) (by
      rw [fs, show et t R i = 0 by unfold et; rw [if_neg c0], Rat.add_zero]; exact h)
  ·rw [if_neg (by simpa using hj)]
   have : i = t.length := by omega
   subst this
   exact ⟨q, rfl, h⟩
def two (pa pb : Int → List Rat) (p : Int) : Option (Int → List Rat) := if p = 0 then some pa else if p = 1 then some pb else none
theorem two_ok {t : List Nd} {a b : List Ch} {pa pb : Int → List Rat} (ha : StratP t 0 a pa) (hb : StratP t 1 b pb) : ∀ p : Int, p = 0 ∨ p = 1 → Two t p ([some a, some b].getD p.toNat none) (two pa pb p) := by
 rintro p (rfl | rfl)
 ·exact ha
 ·exact hb
theorem strat_len {t : List Nd} {p : Int} {s : List Ch} {pi : Int → List Rat} (h : Strat t p s pi) : s.length ≤ 10 := by
 have := congrArg List.length h.eq
 rw [List.length_map] at this
 have := sets_length t p 10
 omega
theorem reach_two {t : List Nd} (hv : V t) (hm : Mod t) {a b : List Ch} {pa pb : Int → List Rat} (ha : StratP t 0 a pa) (hb : StratP t 1 b pb) :
  ∃ qs R, f_reply_Reach fuel t [some ([] ++ a), some ([] ++ b)] = some qs ∧ QF t.length R qs ∧ RR t (ed t (two pa pb)) t.length R :=
 reach_ok hv hm.len [some a, some b] (ed t (two pa pb)) fun i hi => edge_ok hv hm (two_ok ha hb) hi
theorem value_ok {t : List Nd} (hv : V t) (hm : Mod t) {a b : List Ch} {pa pb : Int → List Rat} (ha : StratP t 0 a pa) (hb : StratP t 1 b pb) (hc : f_reply_Check fuel t a b = some 0) :
  ∃ R, RR t (ed t (two pa pb)) t.length R ∧ f_reply_Value fuel t a b = some (if OkR (fs (et t R) t.length) then (rt (fs (et t R) t.length), 0) else (⟨#[]⟩, 2)) := by
 have hf := fuel_ge (n := 2 ^ 100) (by decide)
 have hl := hm.len
 have la := strat_len ha.st
 have lb := strat_len hb.st
 obtain ⟨qs, R, h1, h2, h3⟩ := reach_two hv hm ha hb
 refine ⟨R, h3, ?_⟩
 unfold f_reply_Value
 rw [hc, Option.bind_some, if_neg (by decide), if_pos (by omega), if_pos (by omega), h1, Option.bind_some]
 obtain ⟨q, g1, g2⟩ := value_loop hv hm h3.dr h2 fuel 0 (false, ([], [])) (by omega) (by omega) qr_zero
 have g1 : l_reply_Value_7 fuel t (t.length : Int) 0 false [] [] qs = _ := g1
 rw [g1]
 simp only
 have hd := dr_fs (k := 500) (n := t.length) fun j hj => et_dr hv hm h3.dr hj
 have g3 := told_ok g2 hd (by omega)
 have g3 : f_rat_Told fuel (q.1, (q.2.1, q.2.2)) = _ := g3
 rw [g3]
 split <;> rfl
theorem rpcheck {t : List Nd} {a b : List Ch} (ht : WT t) (ha : WS a) (hb : WS b) : ∃ e : Int, f_reply_Check fuel t a b = some e ∧ (e = 0 → V t ∧ (∃ pa, Strat t 0 a pa) ∧ ∃ pb, Strat t 1 b pb) := by
 obtain ⟨e, he, h1⟩ := check_tree ht
 unfold f_reply_Check
 rw [he, Option.bind_some]
 by_cases e0 : e = 0
 ·rw [if_neg (by simpa using e0)]
  obtain ⟨e2, he2, h2⟩ := strategy_ok (h1 e0) 0 ha
  rw [he2, Option.bind_some]
  by_cases e20 : e2 = 0
  ·rw [if_neg (by simpa using e20)]
   obtain ⟨e3, he3, h3⟩ := strategy_ok (h1 e0) 1 hb
   rw [he3, Option.bind_some]
   exact ⟨e3, rfl, fun h => ⟨h1 e0, h2 e20, h3 h⟩⟩
  ·rw [if_pos (by simpa using e20)]
   exact ⟨e2, rfl, fun h => absurd h e20⟩
 ·rw [if_pos (by simpa using e0)]
  exact ⟨e, rfl, fun h => absurd h e0⟩
end Go.Proofs.YtbcooccafbccdaaGreatDoor
