/- Best replies: what Best returns, and what Value makes of it. -/
import Derived.Test.YtbcooccafbccdaaGreatDoorWh
import Derived.Test.YtbcooccafbccdaaGreatDoorWd
namespace Go.Proofs.YtbcooccafbccdaaGreatDoor
open Go Vm
theorem fine_loop (l : List Int) (hs : l.length < 4611686018427387904) : ∀ (m i : Nat), i ≤ l.length → l.length < m + i →
  (l_slices_IndexFunc_Errno__slices_ContainsFunc_Errno__gamehallkeep2_fine_2 m l (l.length : Int) (i : Int) = some (.exit ()) ∧ ∀ x, x ∈ l.drop i → x = 0) ∨ (∃ j : Nat, l_slices_IndexFunc_Errno__slices_ContainsFunc_Errno__gamehallkeep2_fine_2 m l (l.length : Int) (i : Int) = some (.ret ((j : Int), ())) ∧ ∃ x, x ∈ l ∧ x ≠ 0)
 | 0, i, h1, h2 => by omega
 | m + 1, i, h1, h2 => by
  simp only [l_slices_IndexFunc_Errno__slices_ContainsFunc_Errno__gamehallkeep2_fine_2]
  by_cases hi : i < l.length
  ·rw [if_pos (by simpa using hi), if_pos (by omega), if_pos (by omega), Int.toNat_natCast, getD_eq l i 0 hi, List.drop_eq_getElem_cons hi, w64 _ (by omega) (by omega), show ((i : Int) + 1) = ((i + 1 : Nat) : Int) by omega]
   by_cases e : l[i] = 0
   ·rw [if_neg (by simpa using e)]
    rcases fine_loop l hs m (i + 1) (by omega) (by omega) with ⟨h, g⟩ | h
    ·refine .inl ⟨h, fun x hx => ?_⟩
     rcases List.mem_cons.1 hx with rfl | hx
     ·exact e
     ·exact g x hx
    ·exact .inr h
   ·rw [if_pos (by simpa using e)]
    exact .inr ⟨i, rfl, l[i], List.getElem_mem hi, e⟩
  ·rw [if_neg (by simpa using hi), List.drop_of_length_le (by omega)]
   exact .inl ⟨rfl, by simp⟩
theorem fine_ok' (l : List Int) (hs : l.length < 4611686018427387904) : f_gamehallkeep2_fine fuel l = some (decide (∀ x, x ∈ l → x = 0)) := by
 unfold f_gamehallkeep2_fine
 have h := fine_loop l hs fuel 0 (by omega) (by have := fuel_ge (n := 4611686018427387904) (by decide); omega)
 rw [List.drop_zero] at h
 rcases h with ⟨h, g⟩ | ⟨j, h, x, hx, g⟩
 ·have h : l_slices_IndexFunc_Errno__slices_ContainsFunc_Errno__gamehallkeep2_fine_2 fuel l (l.length : Int) 0 = _ := h
  rw [h]
  simp only [decide_eq_true g]
 ·have h : l_slices_IndexFunc_Errno__slices_ContainsFunc_Errno__gamehallkeep2_fine_2 fuel l (l.length : Int) 0 = _ := h
  rw [h]
  have e : decide (∀ x, x ∈ l → x = 0) = false := decide_eq_false fun k => g (k x hx)
  rw [e]
  simp
def one (p : Int) (pi : Int → List Rat) (q : Int) : Option (Int → List Rat) := if q = 1 - p then some pi else none
theorem one_ok {t : List Nd} {p : Int} (hp : p = 0 ∨ p = 1) {s : List Ch} {pi : Int → List Rat} (hs : StratP t (1 - p) s pi) : ∀ q : Int, q = 0 ∨ q = 1 → Two t q (((List.replicate 2 none).set ((IntKind.i64.wrap (1 - p)).toNat) (some s)).getD q.toNat none) (one p pi q) := by
 rcases hp with rfl | rfl
 ·have e : (IntKind.i64.wrap (1 - 0)).toNat = 1 := by decide
  rw [e]
  rintro q (rfl | rfl)
  ·exact trivial
  ·exact hs
 ·have e : (IntKind.i64.wrap (1 - 1)).toNat = 0 := by decide
  rw [e]
  rintro q (rfl | rfl)
  ·exact hs
  ·exact trivial
theorem stratp_le {t : List Nd} {p : Int} {s : List Ch} {pi : Int → List Rat} (h : StratP t p s pi) {q : Int × Nat} (hq : q ∈ sets t p 10) {c : Nat} (hc : c < q.2) : (pi q.1).getD c 0 ≤ 1 := by
 obtain ⟨h1, h2, h3⟩ := h.at hq
 rw [← h2]
 refine psum_mem (fun r hr => ?_) ?_
 ·obtain ⟨c', hc', e⟩ := List.getElem_of_mem hr
  have := (h3 c' (by omega)).2.1
  rw [getD_eq _ c' 0 hc', e] at this
  exact this
 ·rw [getD_eq _ c 0 (by omega)]; exact List.getElem_mem _
theorem sub_one {t : List Nd} (hv : V t) (hm : Mod t) {p : Int} (hp : p = 0 ∨ p = 1) {s : List Ch} {pi : Int → List Rat} (hs : StratP t (1 - p) s pi) : Sub1 t (ed t (one p pi)) := by
 have key : ∀ i, i < t.length → ∀ c, c < (nx (nd t i)).length → 0 ≤ ed t (one p pi) i c ∧ ed t (one p pi) i c ≤ 1 := by
  intro i hi c hc
  rcases hv.good i hi with ⟨k0, hnil, _⟩ | ⟨k1, hk, hl, rs, hrs, hok, hsum⟩ | ⟨k2, hk, p0, p1, _, _⟩
  ·rw [hnil] at hc; simp at hc
  ·have hrl : rs.length = (nx (nd t i)).length := by rw [← hl, hrs, List.length_map]
   have hmem : rs.getD c 0 ∈ rs := by rw [getD_eq _ c 0 (by omega)]; exact List.getElem_mem _
   unfold ed
   rw [if_pos k1, chz_eq hrs]
   refine ⟨(hok _ hmem).2, ?_⟩
   rw [← hsum]
   exact psum_mem (fun r hr => (hok r hr).2) hmem
  ·have ho : own t (nd t i).2.1 i := ⟨k2, rfl⟩
   have hq := own_sets hv hi ho
   unfold ed
   rw [if_neg (by omega)]
   unfold one
   by_cases e : (nd t i).2.1 = 1 - p
   ·rw [if_pos e]
    rw [e] at hq
    exact ⟨((hs.at hq).2.2 c hc).2.1, stratp_le hs hq hc⟩
   ·rw [if_neg e]
    show (0 : Rat) ≤ 1 ∧ (1 : Rat) ≤ 1
    exact ⟨by decide, Rat.le_refl⟩
 exact ⟨fun i hi c hc => (key i hi c hc).1, fun i hi c hc => (key i hi c hc).2, fun i hi c hc => (edge_ok hv hm (one_ok hp hs) hi).dr c hc⟩
theorem best_ok {t : List Nd} (hv : V t) (hm : Mod t) {p : Int} (hp : p = 0 ∨ p = 1) {bs : List Bk} {b : List Int} (hL : f_recall_List fuel t p = some (sqs bs, b)) (hpr : PR t p bs b) {s : List Ch} {pi : Int → List Rat} (hs : StratP t (1 - p) s pi) :
  ∃ C v0 g q, RR t (ed t (one p pi)) t.length C ∧ f_reply_best fuel t p s = some (q, (sets t p 10).map (og g)) ∧ QR v0 q ∧ Dr 1000 v0 ∧ (∀ q, q ∈ bs → ∃ c, g q.1 = some c ∧ c < q.2.1) ∧
   (∀ W, VW bs W → W 0 = 1 → fs (fun k => W k * vl t p b C t.length k) (tot bs + 1) ≤ v0) ∧ (∀ W, VW bs W → W 0 = 1 → Conc bs bs g W → fs (fun k => W k * vl t p b C t.length k) (tot bs + 1) = v0) := by
 have hf := fuel_ge (n := 2 ^ 100) (by decide)
 have hl40 := hm.len
 have hpos := hv.pos
 have ls := strat_len hs.st
 have hperm := blocks_sets hv hpr.li
 have hbl : bs.length ≤ 10 := by
  have h1 := hperm.length_eq
  rw [List.length_map] at h1
  have := sets_length t p 10
  omega
 have htot := hpr.li.total
 obtain ⟨qs, C, r1, r2, r3⟩ := reach_ok hv hl40 ((List.replicate 2 none).set ((IntKind.i64.wrap (1 - p)).toNat) (some s)) (ed t (one p pi)) fun i hi => edge_ok hv hm (one_ok hp hs) hi
 have r1 : f_reply_Reach fuel t ((List.replicate 2 none).set ((IntKind.i64.wrap (1 - p)).toNat) (some ([] ++ s))) = some qs := r1
 have hsub := sub_one hv hm hp hs
 obtain ⟨D, d1, d2, d3⟩ := et_num hv hm hsub r3 p
 have hnum : ∀ i, i ≤ t.length → ∀ k, Num D (t.length * 10 ^ 12) (vl t p b C i k) := fun i hi k => by
  obtain ⟨h1, h2⟩ := vl_num (b := b) d1 d3 k i hi
  exact ⟨h1, h2.mono (Nat.mul_le_mul_right _ hi)⟩
 have hB1 : 1 ≤ t.length * 10 ^ 12 := by omega
 have hB2 : t.length * 10 ^ 12 ≤ 10 ^ 15 := by omega
 have hdr : ∀ i, i ≤ t.length → ∀ k, Dr 1000 (vl t p b C i k) := fun i hi k => (hnum i hi k).dr d1 (e := 24 * t.length) (by omega) d2 hB1 (by omega)
 have hbb : ∀ y, 0 ≤ b.getD y 0 ∧ b.getD y 0 < ((tot bs + 1 : Nat) : Int) := fun y => hpr.li.bound y
 have hv0 : QF (tot bs + 1) (vl t p b C 0) (List.replicate (tot bs + 1) (false, ([], []))) := (QF.rep (tot bs + 1)).ext fun k _ => rfl
 obtain ⟨vs, v1, v2⟩ := vals_loop hv hm hpr.li.len (N := tot bs + 1) (by omega) hbb r3.dr r2 hdr fuel 0 _ (by omega) (by omega) hv0
 have hbi : BI bs bs [] (tot bs + 1) D (t.length * 10 ^ 12) (vl t p b C t.length) (vl t p b C t.length) (fun _ => none) := by
  refine ⟨fun j _ => ?_, fun q hq => (by cases hq), fun W _ => Rat.le_refl, fun W _ _ => rfl⟩
  rw [List.length_nil, Nat.pow_zero, Nat.one_mul]
  exact hnum t.length (Nat.le_refl _) j
 obtain ⟨v', g, vs', l1, l2, l3⟩ := best_loop (t := t) (p := p) (fun r hr => by
     obtain ⟨q, hq, e⟩ := List.mem_map.1 (hperm.mem_iff.2 hr)
     have := li_width hv (Nat.le_refl _) hpr.li hq
     rw [← e]; exact this.2.1) hpr.li.nodup hpr.li.bef (fun q hq => by have := li_width hv (Nat.le_refl _) hpr.li hq; exact ⟨this.1, this.2.1⟩) (N := tot bs + 1) (D := D) (e := 24 * t.length) rfl (by omega) d1 (by omega) d2 hB1 hB2 hbl bs.length fuel bs [] _ (fun _ => none) vs rfl (by simp) (by omega) v2 hbi
 have hsl := sqs_length bs
 have hs10 := sets_length t p 10
 have hv'l := l2.1
 refine ⟨C, v' 0, g, vs'.getD 0 (false, ([], [])), r3, ?_, l2.2 0 (by omega), (l3.num 0 (by omega)).dr d1 (e := 24 * t.length) (by omega) d2 ?_ ?_, fun q hq => l3.tops q hq, fun W hW h0 => ?_, fun W hW h0 hc => ?_⟩
 ·have w0 : (0 : Int) ≤ IntKind.i64.wrap (1 - p) ∧ IntKind.i64.wrap (1 - p) < 2 := by
   rcases hp with rfl | rfl <;> decide
  unfold f_reply_best
  rw [hL, Option.bind_some, if_pos (by omega), if_pos w0.1, if_pos w0.2, r1, Option.bind_some]
  simp only [hsl]
  rw [if_pos (by omega), if_pos (by omega), if_pos (by omega), Int.toNat_natCast]
  have v1 : l_reply_best_7 fuel p t (t.length : Int) 0 b qs (List.replicate (tot bs + 1) (false, ([], []))) = _ := v1
  rw [v1]
  simp only
  rw [sets_ok hv p, Option.bind_some]
  simp only [List.length_map]
  rw [if_pos (by omega), if_pos (by omega), if_pos (by omega), Int.toNat_natCast]
  have e0 : List.replicate (sets t p 10).length ((0, []) : Ch) = (sets t p 10).map (og fun _ => none) := by
   rw [List.eq_replicate_iff.2 ⟨List.length_map (og fun _ => none), fun x hx => ?_⟩]
   obtain ⟨r, _, rfl⟩ := List.mem_map.1 hx
   rfl
  rw [e0, l1]
  simp only
  rw [if_pos (by omega)]
 ·exact Nat.mul_pos (Nat.pow_pos (by decide)) hB1
 ·have h1 : 2 ^ bs.length ≤ 2 ^ 10 := Nat.pow_le_pow_right (by decide) hbl
  have h2 := Nat.mul_le_mul h1 hB2
  exact Nat.lt_of_le_of_lt h2 (by decide)
 ·have := l3.up W hW
  rw [tot_nil] at this
  refine Rat.le_trans this ?_
  simp only [fs, h0]
  grind
 ·rw [l3.eq W hW hc, tot_nil]
  simp only [fs, h0]
  grind
def pig (t : List Nd) (p : Int) (g : Int → Option Nat) (x : Int) : List Rat := (List.range ((wid t p x).getD 0)).map fun k => if k = (g x).getD 0 then (1 : Rat) else 0
theorem rt_size01 : (rt 1).size = 1 ∧ (rt 0).size = 1 := by
 rw [← rt_one, ← rt_zero]; exact ⟨rfl, rfl⟩
theorem strat_pure {t : List Nd} (hv : V t) {p : Int} {bs : List Bk} {b : List Int} (h : LI t p t.length bs b) {g : Int → Option Nat} (hg : ∀ q, q ∈ bs → ∃ c, g q.1 = some c ∧ c < q.2.1) :
  StratP t p ((sets t p 10).map (og g)) (pig t p g) ∧ ∀ r, r ∈ sets t p 10 → ∃ c, g r.1 = some c ∧ c < r.2 ∧ pig t p g r.1 = (List.range r.2).map fun k => if k = c then (1 : Rat) else 0 := by
 have hperm := blocks_sets hv h
 have key : ∀ r, r ∈ sets t p 10 → ∃ c, g r.1 = some c ∧ c < r.2 ∧ pig t p g r.1 = (List.range r.2).map fun k => if k = c then (1 : Rat) else 0 := by
  intro r hr
  obtain ⟨q, hq, e⟩ := List.mem_map.1 (hperm.mem_iff.2 hr)
  obtain ⟨c, h1, h2⟩ := hg q hq
  subst e
  refine ⟨c, h1, h2, ?_⟩
  have hw := (sets_mem.1 hr).2.2
  unfold pig
  simp only at hw
  simp only [hw, h1, Option.getD_some]
 have hog : ∀ r, r ∈ sets t p 10 → og g r = (r.1, (pig t p g r.1).map rt) := fun r hr => by
  obtain ⟨c, h1, h2, h3⟩ := key r hr
  unfold og
  rw [h1, h3, List.map_map]
  unfold ptx
  simp only [Prod.mk.injEq, true_and]
  refine List.map_congr_left fun k _ => ?_
  simp only [Function.comp]
  split <;> rfl
 refine ⟨⟨⟨List.map_congr_left hog, fun r hr => ?_⟩, fun c hc x hx => ?_⟩, key⟩
 ·obtain ⟨c, h1, h2, h3⟩ := key r hr
  refine ⟨by rw [h3, List.length_map, List.length_range], fun x hx => ?_, ?_⟩
  ·rw [h3] at hx
   obtain ⟨k, _, rfl⟩ := List.mem_map.1 hx
   split
   ·exact ⟨dr_okr (k := 1) dr_one (by decide) (by decide), by decide⟩
   ·exact ⟨okr0, Rat.le_refl⟩
  ·rw [h3, psum_range, fs_single (fun _ => (1 : Rat)) c r.2, if_pos h2]
 ·obtain ⟨r, hr, rfl⟩ := List.mem_map.1 hc
  obtain ⟨c, h1, h2, h3⟩ := key r hr
  rw [hog r hr, h3, List.map_map] at hx
  obtain ⟨k, _, rfl⟩ := List.mem_map.1 hx
  obtain ⟨s1, s0⟩ := rt_size01
  simp only [Function.comp]
  split
  ·rw [s1]; decide
  ·rw [s0]; decide
theorem strat_exit {t : List Nd} {p : Int} {s : List Ch} {pi : Int → List Rat} (h : Strat t p s pi) (ho : ∀ r, r ∈ sets t p 10 → f_rat_Odds fuel ((pi r.1).map rt) = some 0) : ∀ (m i : Nat), i ≤ s.length → s.length < m + i →
  ∃ d, l_recall_Strategy_5 m s (s.length : Int) (i : Int) ((sets t p 10).map (·.1)) (zs ((sets t p 10).map (·.2))) = some (.exit d)
 | 0, i, h1, h2 => by omega
 | m + 1, i, h1, h2 => by
  have hsl : s.length = (sets t p 10).length := by have := congrArg List.length h.eq; rw [List.length_map] at this; exact this
  have h10 := sets_length t p 10
  simp only [l_recall_Strategy_5]
  by_cases hi : i < s.length
  ·have e4 : IntKind.i64.wrap ((i : Int) + 1) = ((i + 1 : Nat) : Int) := by rw [w64 _ (by omega) (by omega)]; omega
   have hat : s.getD i c0 = ((sets t p 10)[i]'(by omega) |>.1, (pi ((sets t p 10)[i]'(by omega)).1).map rt) := by
    rw [getD_eq s i _ hi]
    have : ∀ (l : List Ch) (e : s = l) (hk2 : i < l.length), s[i]'hi = l[i] := by intro l e hk2; subst e; rfl
    rw [this _ h.eq (by rw [List.length_map]; omega), List.getElem_map]
   have hin : ((sets t p 10).map (·.1)).getD i 0 = ((sets t p 10)[i]'(by omega)).1 := by
    rw [getD_eq _ i _ (by rw [List.length_map]; omega), List.getElem_map]
   have hwd : (zs ((sets t p 10).map (·.2))).getD i 0 = (((sets t p 10)[i]'(by omega)).2 : Int) := by
    rw [getD_zs, getD_eq _ i _ (by rw [List.length_map]; omega), List.getElem_map]
   have hmem : (sets t p 10)[i]'(by omega) ∈ sets t p 10 := List.getElem_mem _
   generalize (sets t p 10)[i]'(by omega) = r at *
   have ⟨hl, _⟩ := h.ok r hmem
   rw [if_pos (by simpa using hi), if_pos (by omega), if_pos (by omega), if_pos (by omega), if_pos (by rw [List.length_map]; omega), Int.toNat_natCast, show s.getD i (0, []) = _ from hat, hin, if_pos (by simp), if_pos (by omega), if_pos (by rw [length_zs, List.length_map]; omega), hwd, if_neg (by rw [bne_iff_ne, List.length_map, hl]; simp), e4]
   simp only
   rw [ho r hmem, Option.bind_some, if_neg (by decide)]
   exact strat_exit h ho m (i + 1) (by omega) (by omega)
  ·rw [if_neg (by simpa using hi)]
   exact ⟨_, rfl⟩
theorem strat_true {t : List Nd} (hv : V t) {p : Int} {s : List Ch} {pi : Int → List Rat} (h : Strat t p s pi) (ho : ∀ r, r ∈ sets t p 10 → f_rat_Odds fuel ((pi r.1).map rt) = some 0) : f_recall_Strategy fuel t p s = some 0 := by
 have hf := fuel_ge (n := 2 ^ 100) (by decide)
 have hsl : s.length = (sets t p 10).length := by have := congrArg List.length h.eq; rw [List.length_map] at this; exact this
 have h10 := sets_length t p 10
 unfold f_recall_Strategy
 rw [sets_ok hv p, Option.bind_some]
 simp only
 rw [if_neg (by rw [bne_iff_ne, List.length_map]; simp [hsl])]
 obtain ⟨d, g⟩ := strat_exit h ho fuel 0 (by omega) (by omega)
 have g : l_recall_Strategy_5 fuel s (s.length : Int) 0 ((sets t p 10).map (·.1)) (zs ((sets t p 10).map (·.2))) = _ := g
 rw [g]
end Go.Proofs.YtbcooccafbccdaaGreatDoor
