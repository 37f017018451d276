/- The plain law of RecallSums. -/
import Derived.Test.YtkpohkeppbhdjaaDoorTi
import Derived.Test.YtkpohkeppbhdjaaDoorTh
namespace Go.Proofs.YtkpohkeppbhdjaaDoor
open Go Vm

/-! Are all probabilities short? -/
theorem short_in (l : List ByteArray) (hl : l.length ≤ 140737488351232) : ∀ (m i : Nat), i ≤ l.length → l.length < m + i → (∀ x, x ∈ l.take i → x.size ≤ 12) →
    (∃ k : Nat, l_slices_IndexFunc_Rat__slices_ContainsFunc_Rat__gamehallkeep2_plain_1__slices_IndexFunc_TreeChoice__slices_ContainsFunc_TreeChoice__gamehallkeep2_plain_2 m l (l.length : Int) (i : Int) = some (.ret ((k : Int), ()))) ∨
    ((∀ x, x ∈ l → x.size ≤ 12) ∧ l_slices_IndexFunc_Rat__slices_ContainsFunc_Rat__gamehallkeep2_plain_1__slices_IndexFunc_TreeChoice__slices_ContainsFunc_TreeChoice__gamehallkeep2_plain_2 m l (l.length : Int) (i : Int) = some (.exit ()))
  | 0, i, h1, h2, _ => by omega
  | m + 1, i, h1, h2, h3 => by
    simp only [l_slices_IndexFunc_Rat__slices_ContainsFunc_Rat__gamehallkeep2_plain_1__slices_IndexFunc_TreeChoice__slices_ContainsFunc_TreeChoice__gamehallkeep2_plain_2]
    by_cases hi : i < l.length
    · have e4 : IntKind.i64.wrap ((i : Int) + 1) = ((i + 1 : Nat) : Int) := by rw [w64 _ (by omega) (by omega)]; omega
      rw [if_pos (by simpa using hi), if_pos (by omega), if_pos (by omega), Int.toNat_natCast, e4]
      by_cases c : (l.getD i ByteArray.empty).size ≤ 12
      · rw [if_neg (by rw [decide_eq_true_eq]; omega)]
        refine short_in l hl m (i + 1) (by omega) (by omega) fun x hx => ?_
        rw [List.take_succ_eq_append_getElem hi, List.mem_append, List.mem_singleton] at hx
        rcases hx with hx | rfl
        · exact h3 x hx
        · rw [← getD_eq l i ByteArray.empty hi]; exact c
      · rw [if_pos (by rw [decide_eq_true_eq]; omega)]
        exact .inl ⟨i, rfl⟩
    · rw [if_neg (by simpa using hi)]
      rw [List.take_of_length_le (by omega)] at h3
      exact .inr ⟨h3, rfl⟩
theorem short_out {s : List Ch} (hs : WS s) : ∀ (m i : Nat), i ≤ s.length → s.length + 140737488351300 < m + i → (∀ c, c ∈ s.take i → ∀ x, x ∈ c.2 → x.size ≤ 12) →
    (∃ (k : Nat) (d : _), l_slices_IndexFunc_TreeChoice__slices_ContainsFunc_TreeChoice__gamehallkeep2_plain_2 m s.length (s.length : Int) (i : Int) s = some (.ret ((k : Int), d))) ∨
    ((∀ c, c ∈ s → ∀ x, x ∈ c.2 → x.size ≤ 12) ∧ ∃ d, l_slices_IndexFunc_TreeChoice__slices_ContainsFunc_TreeChoice__gamehallkeep2_plain_2 m s.length (s.length : Int) (i : Int) s = some (.exit d))
  | 0, i, h1, h2, _ => by omega
  | m + 1, i, h1, h2, h3 => by
    have hl := hs.len
    simp only [l_slices_IndexFunc_TreeChoice__slices_ContainsFunc_TreeChoice__gamehallkeep2_plain_2]
    by_cases hi : i < s.length
    · have e4 : IntKind.i64.wrap ((i : Int) + 1) = ((i + 1 : Nat) : Int) := by rw [w64 _ (by omega) (by omega)]; omega
      have hm : s.getD i c0 ∈ s := by rw [getD_eq s i _ hi]; exact List.getElem_mem hi
      have hol := hs.odds _ hm
      rw [if_pos (by simpa using hi), if_pos (by omega), if_pos (by omega), Int.toNat_natCast, e4]
      rcases short_in (s.getD i c0).2 hol m 0 (by omega) (by omega) (fun x hx => by simp at hx) with ⟨k, g⟩ | ⟨h, g⟩
      · have g : l_slices_IndexFunc_Rat__slices_ContainsFunc_Rat__gamehallkeep2_plain_1__slices_IndexFunc_TreeChoice__slices_ContainsFunc_TreeChoice__gamehallkeep2_plain_2 m (s.getD i (0, [])).2 ((s.getD i (0, [])).2.length : Int) 0 = _ := g
        rw [g]
        simp only
        rw [if_pos (decide_eq_true (show (k : Int) ≥ 0 by omega))]
        exact .inl ⟨i, _, rfl⟩
      · have g : l_slices_IndexFunc_Rat__slices_ContainsFunc_Rat__gamehallkeep2_plain_1__slices_IndexFunc_TreeChoice__slices_ContainsFunc_TreeChoice__gamehallkeep2_plain_2 m (s.getD i (0, [])).2 ((s.getD i (0, [])).2.length : Int) 0 = _ := g
        rw [g]
        refine short_out hs m (i + 1) (by omega) (by omega) fun c hc => ?_
        rw [List.take_succ_eq_append_getElem hi, List.mem_append, List.mem_singleton] at hc
        rcases hc with hc | rfl
        · exact h3 c hc
        · rw [getD_eq s i c0 hi] at h; exact h
    · rw [if_neg (by simpa using hi)]
      rw [List.take_of_length_le (by omega)] at h3
      exact .inr ⟨h3, _, rfl⟩

theorem plain_ok {s : List Ch} (hs : WS s) : ∃ r, f_gamehallkeep2_plain fuel [s] = some r ∧ (r = true → ∀ c, c ∈ s → ∀ x, x ∈ c.2 → x.size ≤ 12) := by
  have hf := fuel_ge (n := 2 ^ 100) (by decide)
  have hl := hs.len
  obtain ⟨m, hm⟩ := fuel_split (n := 10) (by decide)
  have e3 : l_slices_Concat_TreeChoice__gamehallkeep2_plain_3 fuel 0 [s] (([s].length : Nat) : Int) 0 = some (.exit ((s.length : Int), ())) := by
    rw [hm]
    simp only [l_slices_Concat_TreeChoice__gamehallkeep2_plain_3, List.length_singleton]
    rw [if_pos (decide_eq_true (by omega)), if_pos (by omega), if_pos (by omega), show (0 : Int).toNat = 0 from rfl, List.getD_cons_zero, Int.zero_add, w64 (s.length : Int) (by omega) (by omega), if_neg (by rw [decide_eq_true_eq]; omega), show IntKind.i64.wrap (0 + 1) = 1 from by decide, if_neg (by rw [decide_eq_true_eq]; omega)]
  have e11 : ∀ b : List Ch, l_slices_Concat_TreeChoice__gamehallkeep2_plain_11 fuel 0 [s] (([s].length : Nat) : Int) 0 b = some (.exit (s.length, s, ())) := fun b => by
    rw [hm]
    simp only [l_slices_Concat_TreeChoice__gamehallkeep2_plain_11, List.length_singleton]
    rw [if_pos (decide_eq_true (by omega)), if_pos (by omega), if_pos (by omega), show (0 : Int).toNat = 0 from rfl, List.getD_cons_zero, List.take_zero, List.nil_append, List.length_nil, if_pos (by omega), show IntKind.i64.wrap (0 + 1) = 1 from by decide, if_neg (by rw [decide_eq_true_eq]; omega)]
  have fin : ∃ r, (match l_slices_IndexFunc_TreeChoice__slices_ContainsFunc_TreeChoice__gamehallkeep2_plain_2 fuel s.length (s.length : Int) 0 s with
      | none => none
      | some (.exit _) => some true
      | some (.ret d) => some (!(decide (d.1 ≥ 0)))) = some r ∧ (r = true → ∀ c, c ∈ s → ∀ x, x ∈ c.2 → x.size ≤ 12) := by
    rcases short_out hs fuel 0 (by omega) (by omega) (fun c hc => by simp at hc) with ⟨k, d, g⟩ | ⟨h, d, g⟩
    · have g : l_slices_IndexFunc_TreeChoice__slices_ContainsFunc_TreeChoice__gamehallkeep2_plain_2 fuel s.length (s.length : Int) 0 s = _ := g
      rw [g]
      refine ⟨_, rfl, fun h => ?_⟩
      have : decide ((k : Int) ≥ 0) = true := decide_eq_true (by omega)
      simp only [this] at h
      cases h
    · have g : l_slices_IndexFunc_TreeChoice__slices_ContainsFunc_TreeChoice__gamehallkeep2_plain_2 fuel s.length (s.length : Int) 0 s = _ := g
      rw [g]
      exact ⟨true, rfl, fun _ => h⟩
  unfold f_gamehallkeep2_plain
  rw [e3]
  simp only
  rw [if_neg (fun h => by have h : (s.length : Int) < 0 := of_decide_eq_true h; omega), Int.sub_zero, w64 (s.length : Int) (by omega) (by omega)]
  by_cases h0 : s.length = 0
  · rw [if_neg (by rw [decide_eq_true_eq]; omega), e11]
    exact fin
  · rw [if_pos (by rw [decide_eq_true_eq]; omega), if_pos (by omega), if_pos (by omega), if_pos (by omega), e11]
    exact fin

/-! The sums. -/
theorem psum_mul (v : Rat) : ∀ l : List Rat, psum (l.map (v * ·)) = v * psum l
  | [] => by simp only [List.map_nil, psum]; grind
  | a :: l => by rw [List.map_cons, psum, psum_mul v l, psum]; grind

/-- What is summed up. -/
structure Sm (bs : List Bk) (W : List Rat) (pi : Int → List Rat) : Prop where
  nodup : (bs.map (·.1)).Nodup
  bef : BefOk 1 bs
  width : ∀ q, q ∈ bs → q.2.1 ≤ 6 ∧ 0 < q.2.1 ∧ (pi q.1).length = q.2.1 ∧ psum (pi q.1) = 1 ∧ ∀ r, r ∈ pi q.1 → Dr 12 r
  few : bs.length ≤ 10
  len : W.length = tot bs + 1
  root : W.getD 0 0 = 1
  step : ∀ pre q post c, bs = pre ++ q :: post → c < q.2.1 → W.getD (tot pre + c + 1) 0 = W.getD q.2.2 0 * (pi q.1).getD c 0
  ok : ∀ j, j < W.length → OkR (W.getD j 0)
  total : tot bs ≤ 1000

theorem sm_dr {bs : List Bk} {W : List Rat} {pi : Int → List Rat} (h : Sm bs W pi) : ∀ (n : Nat) (pre : List Bk) (q : Bk) (post : List Bk), pre.length ≤ n → bs = pre ++ q :: post → Dr (12 * pre.length + 1) (W.getD q.2.2 0) := by
  intro n
  induction n with
  | zero =>
    intro pre q post hl e
    have : pre = [] := List.eq_nil_of_length_eq_zero (by omega)
    subst this
    have hb := befOk_at (by rw [← e]; exact h.bef)
    rw [tot_nil] at hb
    rw [show q.2.2 = 0 by omega, h.root]
    exact dr_one
  | succ n ih =>
    intro pre q post hl e
    have hb := befOk_at (by rw [← e]; exact h.bef)
    by_cases h0 : q.2.2 = 0
    · rw [h0, h.root]; exact dr_mono (by omega) dr_one
    · obtain ⟨pre', q', post', c, e', hc, hk⟩ := place (bs := pre) (k := q.2.2 - 1) (by omega)
      have hlen : pre'.length < pre.length := by rw [e']; simp
      have e2 : bs = pre' ++ q' :: (post' ++ q :: post) := by rw [e, e']; simp
      have d1 := ih pre' q' _ (by omega) e2
      have hw := h.step pre' q' _ c e2 hc
      rw [show tot pre' + c + 1 = q.2.2 by omega] at hw
      rw [hw]
      obtain ⟨_, _, h3, _, h5⟩ := h.width q' (by rw [e2]; simp)
      have d2 := h5 ((pi q'.1).getD c 0) (by rw [getD_eq (pi q'.1) c 0 (by omega)]; exact List.getElem_mem _)
      exact dr_mono (by omega) (dr_mul d1 d2)

theorem sum_block {bs : List Bk} {W : List Rat} {pi : Int → List Rat} (h : Sm bs W pi) {pre post : List Bk} {q : Bk} (e : bs = pre ++ q :: post) (y1 y2 : Int) : ∀ (m c : Nat), c ≤ q.2.1 → q.2.1 < m + c →
    ∃ d, l_gamehallkeep2_RecallSums_17 m (rt (W.getD q.2.2 0 * psum ((pi q.1).take c))) ((tot pre + c + 1 : Nat) : Int) (W.map rt) (sqs bs) q.1 y1 y2 = some (.exit (rt (W.getD q.2.2 0), W.map rt, sqs bs, d)) ∧ d = (q.1, y1, y2, ())
  | 0, c, h1, h2 => by omega
  | m + 1, c, h1, h2 => by
    have hsl := sqs_length bs
    have ht := h.total
    have htb : tot bs = tot pre + (q.2.1 + tot post) := by rw [e, tot_append, tot_cons]
    obtain ⟨w6, _, wl, w1, wd⟩ := h.width q (by rw [e]; simp)
    simp only [l_gamehallkeep2_RecallSums_17]
    by_cases hc : c < q.2.1
    · have e4 : IntKind.i64.wrap (((tot pre + c + 1 : Nat) : Int) + 1) = ((tot pre + (c + 1) + 1 : Nat) : Int) := by rw [w64 _ (by omega) (by omega)]; omega
      have hat : (sqs bs).getD (tot pre + c + 1) sz0 = (q.1, ((c : Int), (q.2.2 : Int))) := by rw [e]; exact sqs_at pre post q c hc
      have hW := h.step pre q post c e hc
      rw [if_pos (by rw [decide_eq_true_eq]; omega), if_pos (by omega), if_pos (by omega), Int.toNat_natCast, show (sqs bs).getD (tot pre + c + 1) (0, (0, 0)) = _ from hat, if_pos (by simp), if_pos (by omega), if_pos (by rw [List.length_map, h.len]; omega), e4]
      rw [getD_mapR W (tot pre + c + 1) (by rw [h.len]; omega), hW]
      have d0 := sm_dr h pre.length pre q post (Nat.le_refl _) e
      have hfew := h.few
      have hpl : pre.length ≤ 10 := by
        have : bs.length = pre.length + (post.length + 1) := by rw [e]; simp
        omega
      have hpd : ∀ k, k ≤ q.2.1 → Dr 300 (W.getD q.2.2 0 * psum ((pi q.1).take k)) := fun k hk => by
        have d1 : Dr ((12 + 1) * ((pi q.1).take k).length + 1) (psum ((pi q.1).take k)) := dr_psum _ fun r hr => wd r (List.mem_of_mem_take hr)
        have hl : ((pi q.1).take k).length ≤ 6 := by rw [List.length_take]; omega
        exact dr_mono (by omega) (dr_mul d0 d1)
      have hstep : W.getD q.2.2 0 * psum ((pi q.1).take c) + W.getD q.2.2 0 * (pi q.1).getD c 0 = W.getD q.2.2 0 * psum ((pi q.1).take (c + 1)) := by
        rw [List.take_succ_eq_append_getElem (by omega), psum_snoc, getD_eq (pi q.1) c 0 (by omega)]
        grind
      have o1 := dr_okr (hpd c (by omega)) (by decide) (by decide)
      have o2 : OkR (W.getD q.2.2 0 * (pi q.1).getD c 0) := by rw [← hW]; exact h.ok _ (by rw [h.len]; omega)
      have o3 := dr_okr (hpd (c + 1) (by omega)) (by decide) (by decide)
      rw [rat_add o1 o2 (by rw [hstep]; exact o3), Option.bind_some, if_neg (by simp), hstep]
      exact sum_block h e y1 y2 m (c + 1) (by omega) (by omega)
    · have hcq : c = q.2.1 := by omega
      subst hcq
      have hfull : W.getD q.2.2 0 * psum ((pi q.1).take q.2.1) = W.getD q.2.2 0 := by
        rw [List.take_of_length_le (by omega), w1]; grind
      rw [hfull]
      by_cases hend : tot pre + q.2.1 + 1 < (sqs bs).length
      · have hne : ((sqs bs).getD (tot pre + q.2.1 + 1) sz0).1 ≠ q.1 := by
          obtain ⟨pre2, q2, post2, c2, e2, hc2, hk2⟩ := place (bs := post) (k := 0) (by omega)
          have h00 : tot pre2 = 0 ∧ c2 = 0 := by omega
          have hp2 : pre2 = [] := by
            cases pre2 with
            | nil => rfl
            | cons a pre2 =>
              have := (h.width a (by rw [e, e2]; simp)).2.1
              rw [tot_cons] at h00
              omega
          subst hp2
          have e3 : bs = (pre ++ [q]) ++ q2 :: post2 := by rw [e, e2]; simp
          have := sqs_at (pre ++ [q]) post2 q2 0 (by omega)
          rw [tot_append, tot_cons, tot_nil] at this
          rw [e3, show tot pre + q.2.1 + 1 = tot pre + (q.2.1 + 0) + 0 + 1 by omega, this]
          have hnd := h.nodup
          rw [e3] at hnd
          simp only [List.map_append, List.map_cons, List.map_nil] at hnd
          rw [List.nodup_append] at hnd
          exact fun eq => hnd.2.2 q.1 (by simp) q2.1 (by simp) eq.symm
        rw [if_pos (by rw [decide_eq_true_eq]; omega), if_pos (by omega), if_pos (by omega), Int.toNat_natCast, if_neg (fun hh => hne (beq_iff_eq.1 hh))]
        exact ⟨_, rfl, rfl⟩
      · rw [if_neg (by rw [decide_eq_true_eq]; omega)]
        exact ⟨_, rfl, rfl⟩

theorem sums_loop {bs : List Bk} {W : List Rat} {pi : Int → List Rat} (h : Sm bs W pi) : ∀ (m k : Nat), k ≤ tot bs + 1 → tot bs + 100 < m + k →
    ∃ d, l_gamehallkeep2_RecallSums_12 m ((tot bs + 1 : Nat) : Int) (k : Int) (W.map rt) (sqs bs) = some (.exit d)
  | 0, k, h1, h2 => by omega
  | m + 1, k, h1, h2 => by
    have hsl := sqs_length bs
    have ht := h.total
    simp only [l_gamehallkeep2_RecallSums_12]
    by_cases hk : k < tot bs + 1
    · have e4 : IntKind.i64.wrap ((k : Int) + 1) = ((k + 1 : Nat) : Int) := by rw [w64 _ (by omega) (by omega)]; omega
      have ih := sums_loop h m (k + 1) (by omega) (by omega)
      rw [if_pos (by rw [decide_eq_true_eq]; omega), if_pos (by omega), if_pos (by omega), Int.toNat_natCast, e4]
      cases k with
      | zero =>
        rw [if_pos (by rfl)]
        exact ih
      | succ k =>
        obtain ⟨pre, q, post, c, e, hc, rfl⟩ := place (bs := bs) (k := k) (by omega)
        have hat : (sqs bs).getD (tot pre + c + 1) sz0 = (q.1, ((c : Int), (q.2.2 : Int))) := by rw [e]; exact sqs_at pre post q c hc
        have hbef := befOk_at (by rw [← e]; exact h.bef)
        have htb : tot bs = tot pre + (q.2.1 + tot post) := by rw [e, tot_append, tot_cons]
        rw [show (sqs bs).getD (tot pre + c + 1) (0, (0, 0)) = _ from hat]
        simp only
        by_cases c00 : c = 0
        · subst c00
          rw [if_neg (by decide)]
          obtain ⟨d, g, hd⟩ := sum_block h e ((0 : Nat) : Int) (q.2.2 : Int) m 0 (by omega) (by have := (h.width q (by rw [e]; simp)).1; omega)
          have e0 : rt (W.getD q.2.2 0 * psum ((pi q.1).take 0)) = (⟨#[48]⟩ : ByteArray) := by
            rw [List.take_zero, psum, Rat.mul_zero, rt_zero]
          rw [e0] at g
          rw [g]
          subst hd
          simp only
          rw [if_pos (show (0 : Int) ≤ (q.2.2 : Int) by omega), if_pos (show (q.2.2 : Int) < ((W.map rt).length : Int) by rw [List.length_map, h.len]; omega), Int.toNat_natCast, getD_mapR W q.2.2 (by rw [h.len]; omega), if_neg (by simp)]
          exact ih
        · rw [if_pos (by rw [bne_iff_ne]; omega)]
          exact ih
    · rw [if_neg (by rw [decide_eq_true_eq]; omega)]
      exact ⟨_, rfl⟩

theorem sums_true (t : List Nd) (p : Int) (s : List Ch) (ht : WT t) (hs : WS s) : f_gamehallkeep2_RecallSums fuel t p s = some true := by
  have hf := fuel_ge (n := 2 ^ 100) (by decide)
  unfold f_gamehallkeep2_RecallSums
  rw [recallFact_true, Option.bind_some, if_neg (by decide)]
  rcases sequences_ok ht p with ⟨e, e0, h0, h⟩ | ⟨h0, hv, bs, b, h, hL, hli⟩
  · have hp : f_recall_Plan fuel t p s = some ([], e) := by
      unfold f_recall_Plan
      rw [h0, Option.bind_some, if_pos (by simpa using e0)]
    rw [hp, Option.bind_some, h, Option.bind_some, if_neg (by simpa using e0), if_neg (by simp)]
  · obtain ⟨e, he, hst⟩ := strategy_ok hv p hs
    have hp1 : f_recall_Plan fuel t p s = (if (e != 0) = true then some ([], e) else (f_recall_weights fuel (sqs bs) s).bind fun r4 => (f_recall_told fuel r4).bind fun r5 => some (r5.1, r5.2)) := by
      unfold f_recall_Plan
      rw [h0, Option.bind_some, if_neg (by decide), he, Option.bind_some]
      split
      · rfl
      · rw [hL, Option.bind_some]
    have hplan : (∃ e : Int, e ≠ 0 ∧ f_recall_Plan fuel t p s = some ([], e)) ∨ (∃ pi, Strat t p s pi ∧ (∀ j, j < (Wt pi bs).length → OkR ((Wt pi bs).getD j 0)) ∧ f_recall_Plan fuel t p s = some ((Wt pi bs).map rt, 0)) := by
      by_cases e0 : e = 0
      · rw [if_neg (by simpa using e0)] at hp1
        obtain ⟨pi, hpi⟩ := hst e0
        obtain ⟨qs, hq, hqr, hdr⟩ := weights_ok hv hpi hli
        rw [hq, Option.bind_some] at hp1
        have htot := hli.total
        have hn := hv.len
        have hWl := Wt_length pi bs
        rcases told_list hqr (by omega) (fun i hi => hdr i (by omega)) with ⟨e', e0', g⟩ | ⟨hok, g⟩
        · rw [g, Option.bind_some] at hp1
          exact .inl ⟨e', e0', hp1⟩
        · rw [g, Option.bind_some] at hp1
          exact .inr ⟨pi, hpi, hok, hp1⟩
      · rw [if_pos (by simpa using e0)] at hp1
        exact .inl ⟨e, e0, hp1⟩
    rcases hplan with ⟨e', e0', hp⟩ | ⟨pi, hpi, hok, hp⟩
    · rw [hp, Option.bind_some, h, Option.bind_some, if_neg (by simpa using e0'), if_neg (by simp)]
    · have htot := hli.total
      have hn := hv.len
      have hWl := Wt_length pi bs
      obtain ⟨r, hr, hshort⟩ := plain_ok hs
      rw [hp, Option.bind_some, h, Option.bind_some, if_pos (by simp), if_neg (by simp), hr, Option.bind_some]
      cases r with
      | false => rfl
      | true =>
        have hsh := hshort rfl
        have hsl := sqs_length bs
        have hperm := blocks_sets hv hli
        simp only
        rw [if_neg (by decide), if_pos (by rw [bne_eq_false_iff_eq, List.length_map, hWl, hsl]), if_pos (by rw [List.length_map, hWl]; omega)]
        rw [getD_mapR (Wt pi bs) 0 (by omega), Wt_root, rt_one, if_neg (by simp), hsl]
        have sm : Sm bs (Wt pi bs) pi := ⟨hli.nodup, hli.bef, fun q hq => by
            have hw := li_width hv (Nat.le_refl _) hli hq
            have hm : (q.1, q.2.1) ∈ sets t p 10 := hperm.mem_iff.1 (List.mem_map_of_mem (f := fun q : Bk => (q.1, q.2.1)) hq)
            obtain ⟨h1, h2, h3⟩ := hpi.ok _ hm
            refine ⟨hw.2.1, hw.1, h1, h3, fun r hr => ?_⟩
            have hc : (q.1, (pi q.1).map rt) ∈ s := by
              rw [hpi.eq]
              exact List.mem_map_of_mem (f := fun q : Int × Nat => (q.1, (pi q.1).map rt)) hm
            have h12 := hsh _ hc (rt r) (List.mem_map_of_mem hr)
            rw [rt_size] at h12
            exact dr_mono h12 (dr_len r), by
            have hl := sets_length t p 10
            have := hperm.length_eq
            rw [List.length_map] at this
            omega, hWl, Wt_root pi bs, fun pre q post c e hc => Wt_at pi hli.bef e hc, hok, by omega⟩
        obtain ⟨d, g2⟩ := sums_loop sm fuel 0 (by omega) (by omega)
        have g2 : l_gamehallkeep2_RecallSums_12 fuel ((tot bs + 1 : Nat) : Int) 0 ((Wt pi bs).map rt) (sqs bs) = _ := g2
        rw [g2]

theorem ws_of {s : List Ch} (h : Wf (.slice (.pair (.int .i64) (.slice .str))) s) : WS s := by
  obtain ⟨h1, h2⟩ := h
  have e : ∀ (n b : Nat), 1 ≤ b → n * b ≤ 140737488351232 → n ≤ 140737488351232 := fun n b hb h => Nat.le_trans (Nat.le_mul_of_pos_right n hb) h
  refine ⟨?_, fun c hc => e _ _ (by decide) (h2 c hc).2.1, fun c hc x hx => Nat.le_trans ((h2 c hc).2.2 x hx) (by decide)⟩
  have h1 : s.length * 32 ≤ 140737488351232 := h1
  omega

theorem recallSums_plain : ∀ x : List Nd × (Int × List Ch), WfL [.slice (.pair (.int .i64) (.pair (.int .i64) (.pair (.int .i64) (.pair (.slice (.int .i64)) (.pair (.slice .str) .str))))), .int .i64, .slice (.pair (.int .i64) (.slice .str))] x → f_gamehallkeep2_RecallSums fuel x.1 x.2.1 x.2.2 = some true :=
  fun x h => sums_true x.1 x.2.1 x.2.2 (wt_of h.1) (ws_of h.2.2)

end Go.Proofs.YtkpohkeppbhdjaaDoor
