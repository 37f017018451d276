/- Strategies of a player, and the probabilities of the sequences. -/
import Derived.Test.YtkpohkeppbhdjaaDoorTg
namespace Go.Proofs.YtkpohkeppbhdjaaDoor
open Go Vm

/-- An information set and the probabilities of its choices, as texts. -/
abbrev Ch := Int × List ByteArray
abbrev c0 : Ch := (0, [])
structure WS (s : List Ch) : Prop where
  len : s.length ≤ 4398046510976
  odds : ∀ c, c ∈ s → c.2.length ≤ 140737488351232
  txt : ∀ c, c ∈ s → ∀ x, x ∈ c.2 → x.size ≤ 900000000000000

/-- A list of probabilities. -/
def Pb (rs : List Rat) : Prop := (∀ r, r ∈ rs → OkR r ∧ 0 ≤ r) ∧ psum rs = 1

theorem strat_loop {s : List Ch} (hs : WS s) (is ws : List Int) (hi : is.length = s.length) (hw : ws.length = s.length) : ∀ (m i : Nat), i ≤ s.length → s.length < m + i →
    (∀ j, j < i → (s.getD j c0).1 = is.getD j 0 ∧ ((s.getD j c0).2.length : Int) = ws.getD j 0 ∧ ∃ rs : List Rat, (s.getD j c0).2 = rs.map rt ∧ Pb rs) →
    (∃ (e : Int) (d : _), e ≠ 0 ∧ l_recall_Strategy_5 m s (s.length : Int) (i : Int) is ws = some (.ret (e, d))) ∨
    ((∀ j, j < s.length → (s.getD j c0).1 = is.getD j 0 ∧ ((s.getD j c0).2.length : Int) = ws.getD j 0 ∧ ∃ rs : List Rat, (s.getD j c0).2 = rs.map rt ∧ Pb rs) ∧ ∃ d, l_recall_Strategy_5 m s (s.length : Int) (i : Int) is ws = some (.exit d))
  | 0, i, h1, h2, _ => by omega
  | m + 1, i, h1, h2, h3 => by
    simp only [l_recall_Strategy_5]
    by_cases hj : i < s.length
    · have hl := hs.len
      have e4 : IntKind.i64.wrap ((i : Int) + 1) = ((i + 1 : Nat) : Int) := by rw [w64 _ (by omega) (by omega)]; omega
      have hm : s.getD i c0 ∈ s := by rw [getD_eq s i _ hj]; exact List.getElem_mem hj
      rw [if_pos (by simpa using hj), if_pos (by omega), if_pos (by omega), if_pos (by omega), if_pos (by omega), Int.toNat_natCast, e4]
      generalize hx : s.getD i (0, []) = x
      have hx' : s.getD i c0 = x := hx
      rw [hx'] at hm
      by_cases c1 : x.1 = is.getD i 0
      · rw [if_pos (by rw [bne_eq_false_iff_eq]; exact c1), if_pos (by omega), if_pos (by omega)]
        by_cases c2 : (x.2.length : Int) = ws.getD i 0
        · rw [if_neg (fun h => (bne_iff_ne.1 h) c2)]
          obtain ⟨e, he, hr⟩ := odds_spec x.2 (Nat.le_trans (hs.odds _ hm) (by decide)) (hs.txt _ hm)
          rw [he, Option.bind_some]
          by_cases e0 : e = 0
          · rw [if_neg (by simpa using e0)]
            refine strat_loop hs is ws hi hw m (i + 1) (by omega) (by omega) fun j hji => ?_
            by_cases ej : j = i
            · subst ej
              rw [hx']
              obtain ⟨rs, h1, _, h2, h3⟩ := hr e0
              exact ⟨c1, c2, rs, h1, h2, h3⟩
            · exact h3 j (by omega)
          · rw [if_pos (by simpa using e0)]
            exact .inl ⟨e, _, e0, rfl⟩
        · rw [if_pos (bne_iff_ne.2 c2)]
          exact .inl ⟨3, _, by decide, rfl⟩
      · rw [if_neg (by rw [bne_eq_false_iff_eq]; exact c1)]
        exact .inl ⟨3, _, by decide, rfl⟩
    · rw [if_neg (by simpa using hj)]
      exact .inr ⟨fun j hj' => h3 j (by omega), _, rfl⟩

/-- A strategy for all information sets, in their order. -/
structure Strat (t : List Nd) (p : Int) (s : List Ch) (pi : Int → List Rat) : Prop where
  eq : s = (sets t p 10).map fun q => (q.1, (pi q.1).map rt)
  ok : ∀ q, q ∈ sets t p 10 → (pi q.1).length = q.2 ∧ Pb (pi q.1)

theorem nodup_idx {α : Type} {l : List α} (h : l.Nodup) {i j : Nat} (hi : i < l.length) (hj : j < l.length) (e : l[i] = l[j]) : i = j := by
  rcases Nat.lt_trichotomy i j with h1 | h1 | h1
  · exact absurd e (List.pairwise_iff_getElem.1 h i j hi hj h1)
  · exact h1
  · exact absurd e.symm (List.pairwise_iff_getElem.1 h j i hj hi h1)

open Classical in
theorem strat_of {t : List Nd} {p : Int} {s : List Ch} (hl : s.length = (sets t p 10).length)
    (h : ∀ j, j < s.length → (s.getD j c0).1 = ((sets t p 10).map (·.1)).getD j 0 ∧ ((s.getD j c0).2.length : Int) = (zs ((sets t p 10).map (·.2))).getD j 0 ∧ ∃ rs : List Rat, (s.getD j c0).2 = rs.map rt ∧ Pb rs) :
    ∃ pi, Strat t p s pi := by
  let pi : Int → List Rat := fun x => if h : ∃ rs : List Rat, (x, rs.map rt) ∈ s then h.choose else []
  have hnd := sets_nodup t p 10
  have key : ∀ j (hj : j < s.length) (hj' : j < (sets t p 10).length), s[j] = ((sets t p 10)[j].1, (pi (sets t p 10)[j].1).map rt) ∧ (pi (sets t p 10)[j].1).length = (sets t p 10)[j].2 ∧ Pb (pi (sets t p 10)[j].1) := by
    intro j hj hj'
    obtain ⟨h1, h2, rs, h3, h4⟩ := h j hj
    rw [getD_eq s j _ hj] at h1 h2 h3
    rw [getD_eq _ j _ (by rw [List.length_map]; exact hj'), List.getElem_map] at h1
    rw [getD_zs, getD_eq _ j _ (by rw [List.length_map]; exact hj'), List.getElem_map] at h2
    have hex : ∃ rs : List Rat, ((sets t p 10)[j].1, rs.map rt) ∈ s := ⟨rs, by
      rw [← h1, ← h3]; exact List.getElem_mem hj⟩
    have hsp : ((sets t p 10)[j].1, (pi (sets t p 10)[j].1).map rt) ∈ s := by
      have := hex.choose_spec
      simp only [pi]
      rw [dif_pos hex]; exact this
    obtain ⟨k, hk, ek⟩ := List.getElem_of_mem hsp
    have hk' : k < (sets t p 10).length := by omega
    have hkj : k = j := by
      refine nodup_idx hnd (by rw [List.length_map]; exact hk') (by rw [List.length_map]; exact hj') ?_
      rw [List.getElem_map, List.getElem_map]
      have hk1 := (h k hk).1
      rw [getD_eq s k _ hk, getD_eq _ k _ (by rw [List.length_map]; exact hk'), List.getElem_map, ek] at hk1
      exact hk1.symm
    subst hkj
    have e2 : (pi (sets t p 10)[k].1) = rs := by
      refine map_rt_inj ?_
      rw [← h3, ek]
    refine ⟨ek, ?_, by rw [e2]; exact h4⟩
    rw [e2]
    have : s[k].2.length = rs.length := by rw [h3, List.length_map]
    omega
  refine ⟨pi, ?_, fun q hq => ?_⟩
  · refine List.ext_getElem (by rw [List.length_map]; exact hl) fun j h1 h2 => ?_
    rw [List.getElem_map]
    exact (key j h1 (by rw [List.length_map] at h2; exact h2)).1
  · obtain ⟨j, hj, e⟩ := List.getElem_of_mem hq
    have := key j (by omega) hj
    rw [e] at this
    exact this.2

theorem strategy_ok {t : List Nd} (hv : V t) (p : Int) {s : List Ch} (hs : WS s) : ∃ e : Int, f_recall_Strategy fuel t p s = some e ∧ (e = 0 → ∃ pi, Strat t p s pi) := by
  have hf := fuel_ge (n := 2 ^ 100) (by decide)
  have hl := hs.len
  unfold f_recall_Strategy
  rw [sets_ok hv p, Option.bind_some]
  simp only
  by_cases c1 : s.length = (sets t p 10).length
  · rw [if_neg (by rw [bne_iff_ne, List.length_map]; simp [c1])]
    rcases strat_loop hs ((sets t p 10).map (·.1)) (zs ((sets t p 10).map (·.2))) (by rw [List.length_map, c1]) (by rw [length_zs, List.length_map, c1]) fuel 0 (by omega) (by omega) (fun j hj => by omega) with ⟨e, d, e0, g⟩ | ⟨h, d, g⟩
    · have g : l_recall_Strategy_5 fuel s (s.length : Int) 0 ((sets t p 10).map (·.1)) (zs ((sets t p 10).map (·.2))) = _ := g
      rw [g]
      exact ⟨e, rfl, fun h => absurd h e0⟩
    · have g : l_recall_Strategy_5 fuel s (s.length : Int) 0 ((sets t p 10).map (·.1)) (zs ((sets t p 10).map (·.2))) = _ := g
      rw [g]
      exact ⟨0, rfl, fun _ => strat_of c1 h⟩
  · rw [if_pos (by rw [bne_iff_ne, List.length_map]; omega)]
    exact ⟨3, rfl, fun h => absurd h (by decide)⟩

/-! The probability of a choice. -/
theorem choice_ret (s : List Ch) (x : Int) (hs : s.length ≤ 1000000) (j : Nat) (hj : j < s.length) (he : (s.getD j c0).1 = x) (hn : ∀ k, k < j → (s.getD k c0).1 ≠ x) : ∀ (m i : Nat), i ≤ j → s.length < m + i →
    l_slices_IndexFunc_TreeChoice__recall_Odd_2 m s (s.length : Int) (i : Int) x = some (.ret ((j : Int), x, ()))
  | 0, i, h1, h2 => by omega
  | m + 1, i, h1, h2 => by
    have e4 : IntKind.i64.wrap ((i : Int) + 1) = ((i + 1 : Nat) : Int) := by rw [w64 _ (by omega) (by omega)]; omega
    simp only [l_slices_IndexFunc_TreeChoice__recall_Odd_2]
    rw [if_pos (by simp; omega), if_pos (by omega), if_pos (by omega), Int.toNat_natCast, e4]
    by_cases hi : i = j
    · subst hi
      rw [if_pos (beq_iff_eq.2 he)]
    · rw [if_neg (fun h => hn i (by omega) (beq_iff_eq.1 h))]
      exact choice_ret s x hs j hj he hn m (i + 1) (by omega) (by omega)

theorem odd_ok {t : List Nd} {p : Int} {s : List Ch} {pi : Int → List Rat} (h : Strat t p s pi) {q : Int × Nat} (hq : q ∈ sets t p 10) {c : Nat} (hc : c < q.2) :
    ∃ z, f_recall_Odd fuel s q.1 (c : Int) = some z ∧ QR ((pi q.1).getD c 0) z := by
  have hf := fuel_ge (n := 2 ^ 100) (by decide)
  obtain ⟨j, hj, ej⟩ := List.getElem_of_mem hq
  have hsl : s.length = (sets t p 10).length := by have := congrArg List.length h.eq; rw [List.length_map] at this; exact this
  have h10 := sets_length t p 10
  have hat : ∀ k (hk : k < (sets t p 10).length), s.getD k c0 = ((sets t p 10)[k].1, (pi (sets t p 10)[k].1).map rt) := by
    intro k hk
    rw [getD_eq s k _ (by omega)]
    have : ∀ (l : List Ch) (e : s = l) (hk2 : k < l.length), s[k]'(by omega) = l[k] := by intro l e hk2; subst e; rfl
    rw [this _ h.eq (by rw [List.length_map]; exact hk), List.getElem_map]
  obtain ⟨h1, h2, _⟩ := h.ok q hq
  have g := choice_ret s q.1 (by omega) j (by omega) (by rw [hat j hj, ej]) (fun k hk e => by
    rw [hat k (by omega)] at e
    have : k = j := nodup_idx (sets_nodup t p 10) (by rw [List.length_map]; omega) (by rw [List.length_map]; exact hj) (by rw [List.getElem_map, List.getElem_map, ej]; exact e)
    omega) fuel 0 (by omega) (by omega)
  have g : l_slices_IndexFunc_TreeChoice__recall_Odd_2 fuel s (s.length : Int) 0 q.1 = _ := g
  unfold f_recall_Odd
  rw [g]
  simp only
  have ho : OkR ((pi q.1).getD c 0) := (h2 _ (by rw [getD_eq _ c 0 (by omega)]; exact List.getElem_mem _)).1
  obtain ⟨z, hz, hqr⟩ := in_ok ho
  have e1 : s.getD j (0, []) = (q.1, (pi q.1).map rt) := by have := hat j hj; rw [ej] at this; exact this
  rw [if_pos (show (0 : Int) ≤ (j : Int) by omega), if_pos (show (j : Int) < (s.length : Int) by omega), Int.toNat_natCast, e1]
  simp only
  rw [if_pos (by omega), if_pos (by rw [List.length_map]; omega), Int.toNat_natCast, getD_mapR _ c (by omega), hz]
  exact ⟨z, rfl, hqr⟩

/-! The probabilities of the sequences. -/
theorem getD_left {α : Type} {a b : List α} {i : Nat} {d : α} (h : i < a.length) : (a ++ b).getD i d = a.getD i d := by
  rw [List.getD_eq_getElem?_getD, List.getElem?_append_left h, ← List.getD_eq_getElem?_getD]
theorem getD_last {α : Type} {a : List α} {x d : α} {i : Nat} (h : i = a.length) : (a ++ [x]).getD i d = x := by
  rw [List.getD_eq_getElem?_getD, List.getElem?_append_right (by omega), h, Nat.sub_self]; rfl
def WL (pi : Int → List Rat) : List Sq → List Rat → List Rat
  | [], acc => acc
  | s :: r, acc => WL pi r (acc ++ [acc.getD s.2.2.toNat 0 * (pi s.1).getD s.2.1.toNat 0])
theorem WL_length (pi : Int → List Rat) : ∀ (r : List Sq) (acc : List Rat), (WL pi r acc).length = acc.length + r.length
  | [], _ => rfl
  | s :: r, acc => by rw [WL, WL_length, List.length_append, List.length_singleton, List.length_cons]; omega
theorem WL_old (pi : Int → List Rat) : ∀ (r : List Sq) (acc : List Rat) (i : Nat), i < acc.length → (WL pi r acc).getD i 0 = acc.getD i 0
  | [], _, _, _ => rfl
  | s :: r, acc, i, h => by
    rw [WL, WL_old pi r _ i (by rw [List.length_append]; omega), List.getD_eq_getElem?_getD, List.getElem?_append_left h, ← List.getD_eq_getElem?_getD]
theorem WL_new (pi : Int → List Rat) : ∀ (r : List Sq) (acc : List Rat) (k : Nat) (s : Sq), r[k]? = some s → s.2.2.toNat < acc.length + k →
    (WL pi r acc).getD (acc.length + k) 0 = (WL pi r acc).getD s.2.2.toNat 0 * (pi s.1).getD s.2.1.toNat 0
  | [], _, _, _, h, _ => by simp at h
  | s0 :: r, acc, 0, s, h, hb => by
    simp only [List.getElem?_cons_zero, Option.some.injEq] at h
    subst h
    rw [WL, WL_old pi r _ _ (by rw [List.length_append, List.length_singleton]; omega), WL_old pi r _ s0.2.2.toNat (by rw [List.length_append]; omega)]
    rw [getD_last (by omega), getD_left (by omega)]
  | s0 :: r, acc, k + 1, s, h, hb => by
    rw [List.getElem?_cons_succ] at h
    have := WL_new pi r (acc ++ [acc.getD s0.2.2.toNat 0 * (pi s0.1).getD s0.2.1.toNat 0]) k s h (by rw [List.length_append, List.length_singleton]; omega)
    rw [List.length_append, List.length_singleton, show acc.length + 1 + k = acc.length + (k + 1) by omega] at this
    rw [WL]; exact this

/-- Numbers and their forms, one by one. -/
def QRs (rs : List Rat) (qs : List Qd) : Prop := rs.length = qs.length ∧ ∀ i, i < rs.length → QR (rs.getD i 0) (qs.getD i (false, ([], [])))
theorem qrs_snoc {rs : List Rat} {qs : List Qd} (h : QRs rs qs) {r : Rat} {q : Qd} (hr : QR r q) : QRs (rs ++ [r]) (qs ++ [q]) := by
  refine ⟨by rw [List.length_append, List.length_append, h.1]; rfl, fun i hi => ?_⟩
  rw [List.length_append, List.length_singleton] at hi
  by_cases e : i < rs.length
  · rw [List.getD_eq_getElem?_getD, List.getD_eq_getElem?_getD, List.getElem?_append_left e, List.getElem?_append_left (by rw [← h.1]; exact e), ← List.getD_eq_getElem?_getD, ← List.getD_eq_getElem?_getD]
    exact h.2 i e
  · have : i = rs.length := by omega
    subst this
    rw [List.getD_eq_getElem?_getD, List.getD_eq_getElem?_getD, List.getElem?_append_right (by omega), List.getElem?_append_right (by rw [h.1]; omega), Nat.sub_self, h.1, Nat.sub_self]
    exact hr

theorem weights_loop {t : List Nd} {p : Int} {s : List Ch} {pi : Int → List Rat} (h : Strat t p s pi) (F : List Sq) (hF : F.length ≤ 1000)
    (hb : ∀ k x, F[k]? = some x → 0 ≤ x.2.2 ∧ x.2.2 < ((k + 1 : Nat) : Int) ∧ ∃ w c : Nat, (x.1, w) ∈ sets t p 10 ∧ x.2.1 = (c : Int) ∧ c < w) :
    ∀ (m k : Nat) (acc : List Rat) (qs : List Qd), k ≤ F.length → F.length < m + k → acc.length = k + 1 → QRs acc qs → (∀ i, i < acc.length → Dr (2000 * i + 1) (acc.getD i 0)) →
    ∃ qs', l_recall_weights_3 m s F (F.length : Int) (k : Int) qs = some (.exit (qs', ())) ∧ QRs (WL pi (F.drop k) acc) qs' ∧ ∀ i, i < F.length + 1 → Dr (2000 * i + 1) ((WL pi (F.drop k) acc).getD i 0)
  | 0, k, acc, qs, h1, h2, _, _, _ => by omega
  | m + 1, k, acc, qs, h1, h2, hl, hq, hd => by
    simp only [l_recall_weights_3]
    by_cases hk : k < F.length
    · have e4 : IntKind.i64.wrap ((k : Int) + 1) = ((k + 1 : Nat) : Int) := by rw [w64 _ (by omega) (by omega)]; omega
      obtain ⟨b0, b1, w, c, hw, hc, hcw⟩ := hb k F[k] (List.getElem?_eq_getElem hk)
      have hql := hq.1
      have hdr : F.drop k = F[k] :: F.drop (k + 1) := List.drop_eq_getElem_cons hk
      rw [if_pos (by simpa using hk), if_pos (by omega), if_pos (by omega), Int.toNat_natCast, show F.getD k (0, (0, 0)) = F[k] from getD_eq F k _ hk, e4]
      rw [hdr, WL]
      generalize F[k] = x at *
      obtain ⟨v, hv⟩ := Int.eq_ofNat_of_zero_le b0
      obtain ⟨z, hz, hqz⟩ := odd_ok h hw hcw
      have hvl : v < acc.length := by omega
      have ho : OkR ((pi x.1).getD c 0) := ((h.ok _ hw).2.1 _ (by rw [getD_eq _ c 0 (by rw [(h.ok _ hw).1]; exact hcw)]; exact List.getElem_mem _)).1
      have hdv := hd v hvl
      obtain ⟨y, hy, hqy⟩ := qmul_ok (hq.2 v hvl) hqz hdv (okr_dr ho) (by omega)
      rw [if_pos b0, if_pos (by omega), hc, hz, Option.bind_some, hv, Int.toNat_natCast]
      have hy : f_rat_Q_Mul fuel ((qs.getD v (false, ([], []))).1, ((qs.getD v (false, ([], []))).2)) z = some y := hy
      rw [hy, Option.bind_some, if_pos (by omega), Int.toNat_natCast]
      refine weights_loop h F hF hb m (k + 1) _ _ (by omega) (by omega) (by rw [List.length_append, List.length_singleton]; omega) (qrs_snoc hq hqy) fun i hi => ?_
      rw [List.length_append, List.length_singleton] at hi
      by_cases e : i < acc.length
      · rw [List.getD_eq_getElem?_getD, List.getElem?_append_left e, ← List.getD_eq_getElem?_getD]; exact hd i e
      · have : i = acc.length := by omega
        subst this
        rw [List.getD_eq_getElem?_getD, List.getElem?_append_right (by omega), Nat.sub_self]
        exact dr_mono (by omega) (dr_mul hdv (okr_dr ho))
    · rw [if_neg (by simpa using hk), List.drop_of_length_le (by omega)]
      exact ⟨qs, rfl, hq, fun i hi => hd i (by rw [hl]; omega)⟩

theorem qr_one : QR 1 (false, (zs (cn 1), zs (cn 1))) := ⟨by decide, by rfl, .inl (by rfl)⟩
theorem int_one : f_rat_Int fuel 1 = some (false, (zs (cn 1), zs (cn 1))) := by
  unfold f_rat_Int
  rw [if_neg (by decide), of_one]; rfl
theorem dr_one : Dr 1 1 := dr_nat (n := 1) (by decide) (by decide)

theorem flat_at (pre post : List Bk) (q : Bk) (c : Nat) (h : c < q.2.1) : ((pre ++ q :: post).flatMap blk)[tot pre + c]? = some (q.1, ((c : Int), (q.2.2 : Int))) := by
  rw [List.flatMap_append, List.flatMap_cons, List.getElem?_append_right (by rw [flat_length]; omega), flat_length, show tot pre + c - tot pre = c by omega,
    List.getElem?_append_left (by rw [blk_length]; exact h)]
  simp only [blkAt]
  rw [List.getElem?_map, List.getElem?_range' h]
  simp

/-- The probabilities of all sequences. -/
def Wt (pi : Int → List Rat) (bs : List Bk) : List Rat := WL pi (bs.flatMap blk) [1]
theorem Wt_length (pi : Int → List Rat) (bs : List Bk) : (Wt pi bs).length = tot bs + 1 := by rw [Wt, WL_length, flat_length, List.length_singleton]; omega
theorem Wt_root (pi : Int → List Rat) (bs : List Bk) : (Wt pi bs).getD 0 0 = 1 := by rw [Wt, WL_old _ _ _ _ (by simp)]; rfl
theorem Wt_at (pi : Int → List Rat) {bs pre post : List Bk} {q : Bk} (hb : BefOk 1 bs) (e : bs = pre ++ q :: post) {c : Nat} (h : c < q.2.1) :
    (Wt pi bs).getD (tot pre + c + 1) 0 = (Wt pi bs).getD q.2.2 0 * (pi q.1).getD c 0 := by
  subst e
  have hbef := befOk_at hb
  have := WL_new pi ((pre ++ q :: post).flatMap blk) [1] (tot pre + c) _ (flat_at pre post q c h) (by rw [List.length_singleton, Int.toNat_natCast]; omega)
  rw [List.length_singleton, show 1 + (tot pre + c) = tot pre + c + 1 by omega, Int.toNat_natCast, Int.toNat_natCast] at this
  exact this

theorem weights_ok {t : List Nd} (hv : V t) {p : Int} {s : List Ch} {pi : Int → List Rat} (h : Strat t p s pi) {bs : List Bk} {b : List Int} (hli : LI t p t.length bs b) :
    ∃ qs, f_recall_weights fuel (sqs bs) s = some qs ∧ QRs (Wt pi bs) qs ∧ ∀ i, i < tot bs + 1 → Dr (2000 * i + 1) ((Wt pi bs).getD i 0) := by
  have hf := fuel_ge (n := 2 ^ 100) (by decide)
  have hn := hv.len
  have ht := hli.total
  have hsl := sqs_length bs
  have hfl := flat_length bs
  have hperm := blocks_sets hv hli
  unfold f_recall_weights
  rw [int_one, Option.bind_some, if_pos (by omega)]
  have e : ((sqs bs).take (sqs bs).length).drop 1 = bs.flatMap blk := by rw [List.take_length]; rfl
  rw [e]
  obtain ⟨qs, g, h1, h2⟩ := weights_loop h (bs.flatMap blk) (by omega) (fun k x hx => by
    have hk : k < tot bs := by
      rw [← hfl]; exact (List.getElem?_eq_some_iff.1 hx).1
    obtain ⟨pre, q, post, c, e, hc, rfl⟩ := place hk
    have hbef := befOk_at (by rw [← e]; exact hli.bef)
    rw [e, flat_at pre post q c hc] at hx
    cases hx
    refine ⟨by simp, by simp only; omega, q.2.1, c, ?_, rfl, hc⟩
    exact hperm.mem_iff.1 (List.mem_map_of_mem (f := fun q : Bk => (q.1, q.2.1)) (show q ∈ bs by rw [e]; simp))) fuel 0 [1] [(false, (zs (cn 1), zs (cn 1)))] (by omega) (by omega) rfl
    ⟨rfl, fun i hi => by
      have : i = 0 := by rw [List.length_singleton] at hi; omega
      subst this; exact qr_one⟩ (fun i hi => by
      have : i = 0 := by rw [List.length_singleton] at hi; omega
      subst this; exact dr_one)
  have g : l_recall_weights_3 fuel s (bs.flatMap blk) ((bs.flatMap blk).length : Int) 0 [(false, (zs (cn 1), zs (cn 1)))] = _ := g
  rw [g]
  rw [List.drop_zero] at h1 h2
  exact ⟨qs, rfl, h1, fun i hi => h2 i (by rw [hfl]; exact hi)⟩

theorem outs_loop (rs : List Rat) (qs : List Qd) (h : QRs rs qs) (hl : rs.length ≤ 1000) (hd : ∀ i, i < rs.length → Dr (2000 * i + 1) (rs.getD i 0)) : ∀ (m i : Nat), i ≤ rs.length → rs.length < m + i → (∀ j, j < i → OkR (rs.getD j 0)) →
    (∃ (e : Int) (d : _), e ≠ 0 ∧ l_matrix_Out_3 m qs (qs.length : Int) (i : Int) ((rs.take i).map rt) = some (.ret (e, d))) ∨
    ((∀ j, j < rs.length → OkR (rs.getD j 0)) ∧ l_matrix_Out_3 m qs (qs.length : Int) (i : Int) ((rs.take i).map rt) = some (.exit (rs.map rt, ())))
  | 0, i, h1, h2, _ => by omega
  | m + 1, i, h1, h2, h3 => by
    have hql := h.1
    simp only [l_matrix_Out_3]
    by_cases hi : i < rs.length
    · have e4 : IntKind.i64.wrap ((i : Int) + 1) = ((i + 1 : Nat) : Int) := by rw [w64 _ (by omega) (by omega)]; omega
      have hq := h.2 i hi
      have hdi := hd i hi
      have f1 := fits_ok hq hdi (by omega)
      have f1 : f_rat_Fits fuel ((qs.getD i (false, ([], []))).1, ((qs.getD i (false, ([], []))).2)) = _ := f1
      rw [if_pos (by simp; omega), if_pos (by omega), if_pos (by omega), Int.toNat_natCast, f1, Option.bind_some, e4]
      by_cases ho : OkR (rs.getD i 0)
      · have f2 := out_ok hq hdi (by omega)
        have f2 : f_rat_Q_Out fuel ((qs.getD i (false, ([], []))).1, ((qs.getD i (false, ([], []))).2)) = _ := f2
        rw [if_pos ho, if_neg (by decide), f2, Option.bind_some, if_pos (by rw [List.length_map, List.length_take]; omega)]
        have e : (rs.take i).map rt ++ [rt (rs.getD i 0)] = (rs.take (i + 1)).map rt := by
          rw [List.take_succ_eq_append_getElem hi, List.map_append, getD_eq rs i 0 hi]; rfl
        rw [e]
        refine outs_loop rs qs h hl hd m (i + 1) (by omega) (by omega) fun j hj => ?_
        by_cases ej : j = i
        · rw [ej]; exact ho
        · exact h3 j (by omega)
      · rw [if_neg ho, if_pos (by decide)]
        exact .inl ⟨2, _, by decide, rfl⟩
    · rw [if_neg (by simp; omega), List.take_of_length_le (by omega)]
      exact .inr ⟨fun j hj => h3 j (by omega), rfl⟩

theorem told_list {rs : List Rat} {qs : List Qd} (h : QRs rs qs) (hl : rs.length ≤ 1000) (hd : ∀ i, i < rs.length → Dr (2000 * i + 1) (rs.getD i 0)) :
    (∃ e : Int, e ≠ 0 ∧ f_recall_told fuel qs = some ([], e)) ∨ ((∀ j, j < rs.length → OkR (rs.getD j 0)) ∧ f_recall_told fuel qs = some (rs.map rt, 0)) := by
  have hf := fuel_ge (n := 2 ^ 100) (by decide)
  unfold f_recall_told f_matrix_Out
  rcases outs_loop rs qs h hl hd fuel 0 (by omega) (by omega) (fun j hj => by omega) with ⟨e, d, e0, g⟩ | ⟨ho, g⟩
  · have g : l_matrix_Out_3 fuel qs (qs.length : Int) 0 [] = _ := g
    rw [g]; exact .inl ⟨e, e0, rfl⟩
  · have g : l_matrix_Out_3 fuel qs (qs.length : Int) 0 [] = _ := g
    rw [g]; exact .inr ⟨ho, rfl⟩

end Go.Proofs.YtkpohkeppbhdjaaDoor
