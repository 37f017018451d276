/- Which texts are those of rational numbers: Check, CheckAll. -/
import Derived.Test.YtnhdjbbdgegkgaaDoorRb
namespace Go.Proofs.YtnhdjbbdgegkgaaDoor
open Go Vm
theorem cmp_one {n : Nat} (h : Sz n) (h0 : 0 < n) : f_nat_N_Cmp fuel (zs (cn n)) (zs (cn 1)) = some (if n = 1 then 0 else 1) := by
 rw [cmp_ok h (sz_le h0 h), if_neg (show ¬ n < 1 by omega)]
 by_cases h1 : n = 1
 ·rw [if_neg (by omega), if_pos h1]
 ·rw [if_pos (by omega), if_neg h1]
theorem rcheck_ok {r : Rat} (h : OkR r) : f_rat_Check fuel (rt r) = some 0 := by
 unfold f_rat_Check
 obtain ⟨rest, e1, e2⟩ := parts_ok r (by have := okr_len h; omega)
 rw [e1, Option.bind_some, e2, Option.bind_some, check_txt h.1, Option.bind_some]
 by_cases hd : r.den = 1
 ·have b : (!decide (r.den = 1)) = false := by simp [hd]
  simp only [b, Bool.false_eq_true, if_false]
  by_cases hn : r.num < 0
  ·have b2 : decide (r.num < 0) = true := by simpa using hn
   rw [if_pos (by decide)]
   simp only [b2, if_true]
   rw [txt_zero, txt_eq, if_neg (by rw [decide_eq_true_eq]; omega), if_pos (by decide)]
  ·have b2 : decide (r.num < 0) = false := by simpa using hn
   rw [if_pos (by decide)]
   simp only [b2, Bool.false_eq_true, if_false]
   rw [if_pos (by decide)]
 ·have b : (!decide (r.den = 1)) = true := by simp [hd]
  have hz : Sz r.num.natAbs := ok_sz h.1
  have hz2 : Sz r.den := ok_sz h.2
  have h0 := r.den_nz
  have hg : Nat.gcd r.num.natAbs r.den = 1 := r.reduced
  have tail : (f_nat_Read fuel (txt r.num.natAbs)).bind (fun r5 => (f_nat_Read fuel (txt r.den)).bind fun r6 => (f_nat_N_Gcd fuel r5 r6).bind fun r7 => (f_nat_Of fuel 1).bind fun r8 => (f_nat_N_Cmp fuel r7 r8).bind fun r9 => if (r9 != 0) = true then some 3 else some 0) = some (0 : Int) := by
   rw [read_txt h.1, Option.bind_some, read_txt h.2, Option.bind_some, gcd_ok hz hz2, Option.bind_some, of_one, Option.bind_some, hg, cmp_one (sz_le (by omega) hz2) (by decide), Option.bind_some]
   rfl
  simp only [b, if_true, if_neg hd]
  rw [check_txt h.2, Option.bind_some, if_pos (by decide), if_pos (by decide)]
  by_cases hn : r.num < 0
  ·have b2 : decide (r.num < 0) = true := by simpa using hn
   simp only [b2, if_true]
   rw [txt_zero, txt_eq, if_neg (by rw [decide_eq_true_eq]; omega), if_pos (by decide), if_neg (by decide), txt_eq, if_pos (by simpa using h0), txt_one, txt_eq, if_pos (by simpa using hd)]
   exact tail
  ·have b2 : decide (r.num < 0) = false := by simpa using hn
   simp only [b2, Bool.false_eq_true, if_false]
   rw [txt_zero, if_pos (by decide), if_neg (by decide), txt_eq, if_pos (by simpa using h0), txt_one, txt_eq, if_pos (by simpa using hd)]
   exact tail
theorem mk_parts {neg : Bool} {m d : Nat} (hm : m ≠ 0) (hd : d ≠ 0) (hg : Nat.gcd m d = 1) : (mkRat (sgn neg m) d).num.natAbs = m ∧ (mkRat (sgn neg m) d).den = d ∧ decide ((mkRat (sgn neg m) d).num < 0) = neg := by
 have := frac_parts neg hm hd
 rwa [hg, Nat.div_one, Nat.div_one] at this
theorem rcheck_spec (s : ByteArray) (hs : s.size ≤ 900000000000000) : (∃ e : Int, e ≠ 0 ∧ f_rat_Check fuel s = some e) ∨ ∃ r, s = rt r ∧ OkR r := by
 have e := sb_bt s
 have hb := by_bt s
 have hl : s.size = (bt s).length := by rw [← sb_size, e]
 generalize bt s = l at *
 subst e
 -- sign
 obtain ⟨neg, l', e1, hl', hsign⟩ : ∃ (neg : Bool) (l' : List Nat), f_strings_CutPrefix fuel (sb l) (⟨#[45]⟩ : ByteArray) = some (sb l', neg) ∧ l'.length ≤ 900000000000000 ∧ l = (if neg then [45] else []) ++ l' := by
  by_cases h : l.head? = some 45
  ·cases l with
   | nil => cases h
   | cons c r =>
    simp only [List.head?_cons, Option.some.injEq] at h
    subst h
    simp only [List.length_cons] at hl
    exact ⟨true, r, cutp_yes r (fun c hc => hb c (List.mem_cons_of_mem _ hc)) (by omega), by omega, rfl⟩
  ·exact ⟨false, l, cutp_no l hb h (by omega), by omega, rfl⟩
 have hb' : By l' := fun c hc => hb c (by rw [hsign]; exact List.mem_append_right _ hc)
 unfold f_rat_Check
 rw [e1, Option.bind_some]
 by_cases h47 : 47 ∈ l'
 ·obtain ⟨p, q, hpq, hp⟩ : ∃ p q, l' = p ++ 47 :: q ∧ 47 ∉ p := by
   have : ∀ (l : List Nat), 47 ∈ l → ∃ p q, l = p ++ 47 :: q ∧ 47 ∉ p := by
    intro l
    induction l with
    | nil => intro h; cases h
    | cons c l ih =>
     intro h
     by_cases hc : c = 47
     ·subst hc; exact ⟨[], l, rfl, by simp⟩
     ·obtain ⟨p, q, rfl, hp⟩ := ih (by
        rcases List.mem_cons.1 h with h | h
        · exact absurd h.symm hc
        · exact h)
      refine ⟨c :: p, q, rfl, fun hm => ?_⟩
      rcases List.mem_cons.1 hm with h | h
      ·exact hc h.symm
      ·exact hp h
   exact this l' h47
  subst hpq
  simp only [List.length_append, List.length_cons] at hl'
  have hbp : By p := (by_append.1 hb').1
  have hbq : By q := fun c hc => (by_append.1 hb').2 c (List.mem_cons_of_mem _ hc)
  rw [cut_yes p q hbp hp (by omega), Option.bind_some]
  simp only [if_true]
  rcases check_spec (sb p) (by rw [sb_size]; omega) with ⟨x, x0, ex, _⟩ | ⟨m, em, hm, ex⟩
  ·rw [ex, Option.bind_some]
   refine .inl ?_
   rcases check_spec (sb q) (by rw [sb_size]; omega) with ⟨y, y0, ey, _⟩ | ⟨d, ed, hd, ey⟩
   ·rw [ey, Option.bind_some]
    by_cases x5 : x = 5
    ·rw [if_neg (by simp [x5])]; exact ⟨5, by decide, rfl⟩
    rw [if_pos (by simpa using x5)]
    by_cases y5 : y = 5
    ·rw [if_neg (by simp [y5])]; exact ⟨5, by decide, rfl⟩
    rw [if_pos (by simpa using y5)]
    have k : ((x != 0) = false) = False := by simp [x0]
    simp only [k, if_false]
    split
    ·split
     ·exact ⟨5, by decide, rfl⟩
     ·exact ⟨2, by decide, rfl⟩
    ·exact ⟨2, by decide, rfl⟩
   ·rw [ey, Option.bind_some]
    by_cases x5 : x = 5
    ·rw [if_neg (by simp [x5])]; exact ⟨5, by decide, rfl⟩
    rw [if_pos (by simpa using x5), if_pos (by decide)]
    have k : ((x != 0) = false) = False := by simp [x0]
    simp only [k, if_false]
    split
    ·split
     ·exact ⟨5, by decide, rfl⟩
     ·exact ⟨2, by decide, rfl⟩
    ·exact ⟨2, by decide, rfl⟩
  ·rw [ex, Option.bind_some]
   rcases check_spec (sb q) (by rw [sb_size]; omega) with ⟨y, y0, ey, _⟩ | ⟨d, ed, hd, ey⟩
   ·rw [ey, Option.bind_some]
    refine .inl ?_
    rw [if_pos (by decide)]
    by_cases y5 : y = 5
    ·rw [if_neg (by simp [y5])]; exact ⟨5, by decide, rfl⟩
    rw [if_pos (by simpa using y5)]
    have k : ((y != 0) = true) = True := by simp [y0]
    simp only [k, if_true, show (((0 : Int) != 0) = false) = True by decide]
    split
    ·split
     ·exact ⟨5, by decide, rfl⟩
     ·exact ⟨2, by decide, rfl⟩
    ·exact ⟨2, by decide, rfl⟩
   ·rw [ey, Option.bind_some, if_pos (by decide), if_pos (by decide), em, ed, txt_zero, txt_one]
    simp only [txt_eq, show (((0 : Int) != 0) = false) = True by decide, show (((0 : Int) != 0) = true) = False by decide, if_true, if_false]
    have hom : Ok m := hm
    have hod : Ok d := hd
    have rd : 0 < Nat.gcd m d ∨ (m = 0 ∧ d = 0) := by
     rcases Nat.eq_zero_or_pos (Nat.gcd m d) with h | h
     ·exact .inr (Nat.gcd_eq_zero_iff.1 h)
     ·exact .inl h
    by_cases hd0 : d = 0
    ·refine .inl ?_
     have b : (decide (d = 0) = false) = False := by simp [hd0]
     simp only [b, if_false]
     split
     ·split
      ·exact ⟨5, by decide, rfl⟩
      ·exact ⟨3, by decide, rfl⟩
     ·exact ⟨3, by decide, rfl⟩
    have b0 : (decide (d = 0) = false) = True := by simp [hd0]
    by_cases hd1 : d = 1
    ·refine .inl ?_
     have b : (decide (d = 1) = false) = False := by simp [hd1]
     simp only [b0, b, if_true, if_false]
     split
     ·split
      ·exact ⟨5, by decide, rfl⟩
      ·exact ⟨3, by decide, rfl⟩
     ·exact ⟨3, by decide, rfl⟩
    have b1 : (decide (d = 1) = false) = True := by simp [hd1]
    have hgp : 0 < Nat.gcd m d := by omega
    have hgz : Sz (Nat.gcd m d) := sz_le (Nat.le_of_dvd (by omega) (Nat.gcd_dvd_right m d)) (ok_sz hod)
    simp only [b0, b1, if_true]
    rw [read_txt hom, Option.bind_some, read_txt hod, Option.bind_some, gcd_ok (ok_sz hom) (ok_sz hod), Option.bind_some, of_one, Option.bind_some, cmp_one hgz hgp, Option.bind_some]
    by_cases hg : Nat.gcd m d = 1
    ·simp only [if_pos hg, show (((0 : Int) != 0) = true) = False by decide, if_false]
     have hm0 : m ≠ 0 := fun e => by rw [e, Nat.gcd_zero_left] at hg; exact hd1 hg
     refine .inr ⟨mkRat (sgn neg m) d, ?_, ?_⟩
     ·obtain ⟨p1, p2, p3⟩ := mk_parts (neg := neg) hm0 hd0 hg
      have hpm : p = dt m := by
       have := congrArg bt em
       unfold txt at this
       rwa [bt_sb hbp, bt_sb (by_dt m)] at this
      have hqd : q = dt d := by
       have := congrArg bt ed
       unfold txt at this
       rwa [bt_sb hbq, bt_sb (by_dt d)] at this
      unfold rt rtb
      rw [hsign, p1, p2, hpm, hqd, if_neg hd1]
      congr 1
      cases neg
      ·rw [if_neg (show ¬ (mkRat (sgn false m) d).num < 0 by simpa using p3)]; rfl
      ·rw [if_pos (show (mkRat (sgn true m) d).num < 0 by simpa using p3)]; rfl
     ·obtain ⟨p1, p2, _⟩ := mk_parts (neg := neg) hm0 hd0 hg
      exact ⟨by rw [p1]; exact hom, by rw [p2]; exact hod⟩
    ·simp only [if_neg hg, show (((1 : Int) != 0) = true) = True by decide, if_true]
     refine .inl ?_
     split
     ·split
      ·exact ⟨5, by decide, rfl⟩
      ·exact ⟨3, by decide, rfl⟩
     ·exact ⟨3, by decide, rfl⟩
 ·rw [cut_no l' hb' h47, Option.bind_some]
  simp only [Bool.false_eq_true, if_false]
  rcases check_spec (sb l') (by rw [sb_size]; omega) with ⟨x, x0, ex, _⟩ | ⟨m, em, hm, ex⟩
  ·rw [ex, Option.bind_some]
   refine .inl ?_
   by_cases x5 : x = 5
   ·rw [if_neg (by simp [x5])]; exact ⟨5, by decide, rfl⟩
   rw [if_pos (by simpa using x5)]
   have k : ((x != 0) = false) = False := by simp [x0]
   simp only [k, if_false]
   split
   ·split
    ·exact ⟨5, by decide, rfl⟩
    ·exact ⟨2, by decide, rfl⟩
   ·exact ⟨2, by decide, rfl⟩
  ·rw [ex, Option.bind_some, if_pos (by decide), em, txt_zero]
   simp only [txt_eq, show (((0 : Int) != 0) = false) = True by decide, if_true]
   by_cases hbad : neg = true ∧ m = 0
   ·refine .inl ⟨5, by decide, ?_⟩
    rw [if_pos hbad.1, if_pos (by simpa using hbad.2)]
   ·have hlm : l' = dt m := by
     have := congrArg bt em
     unfold txt at this
     rwa [bt_sb hb', bt_sb (by_dt m)] at this
    have v1 : (mkRat (sgn neg m) 1).num = sgn neg m ∧ (mkRat (sgn neg m) 1).den = 1 := by
     rw [Rat.mkRat_one]; exact ⟨rfl, rfl⟩
    refine .inr ⟨mkRat (sgn neg m) 1, ?_, ?_⟩
    ·unfold rt rtb
     rw [hsign, hlm, v1.1, v1.2, sgn_abs, if_pos rfl, List.append_nil]
     congr 1
     cases neg
     ·rw [if_neg (show ¬ sgn false m < 0 by simp [sgn])]; rfl
     ·have : m ≠ 0 := fun e => hbad ⟨rfl, e⟩
      rw [if_pos (show sgn true m < 0 by simp [sgn]; omega)]; rfl
    ·refine ⟨?_, ?_⟩
     ·rw [v1.1, sgn_abs]; exact hm
     ·rw [v1.2]; exact ok_lt (k := 1) (by decide) (by decide) (by decide)
theorem getD_mapR (l : List Rat) (i : Nat) (h : i < l.length) : (l.map rt).getD i ByteArray.empty = rt (l.getD i 0) := by
 simp only [List.getD_eq_getElem?_getD, List.getElem?_map]
 rw [List.getElem?_eq_getElem h]; rfl
theorem checkAll_loop (l : List ByteArray) (hs : l.length ≤ 4611686018427387904) (hb : ∀ s, s ∈ l → s.size ≤ 900000000000000) : ∀ (m i : Nat) (rs : List Rat), i ≤ l.length → l.length < m + i → l.take i = rs.map rt → (∀ r, r ∈ rs → OkR r) →
  (∃ e : Int, e ≠ 0 ∧ l_rat_CheckAll_2 m l (l.length : Int) (i : Int) = some (.ret (e, ()))) ∨ ∃ rs : List Rat, l = rs.map rt ∧ (∀ r, r ∈ rs → OkR r) ∧ l_rat_CheckAll_2 m l (l.length : Int) (i : Int) = some (.exit ())
 | 0, i, rs, h1, h2, h3, h4 => by omega
 | m + 1, i, rs, h1, h2, h3, h4 => by
  simp only [l_rat_CheckAll_2]
  by_cases hi : i < l.length
  ·have e4 : IntKind.i64.wrap ((i : Int) + 1) = ((i + 1 : Nat) : Int) := by rw [w64 _ (by omega) (by omega)]; omega
   rw [if_pos (by simpa using hi), if_pos (by omega), if_pos (by omega), Int.toNat_natCast, getD_eq l i _ hi, e4]
   rcases rcheck_spec l[i] (hb _ (List.getElem_mem hi)) with ⟨e, e0, h⟩ | ⟨r, hr, hok⟩
   ·rw [h, Option.bind_some, if_pos (ne0 e0)]
    exact .inl ⟨e, e0, rfl⟩
   ·rw [hr, rcheck_ok hok, Option.bind_some, if_neg (by decide)]
    refine checkAll_loop l hs hb m (i + 1) (rs ++ [r]) (by omega) (by omega) ?_ ?_
    ·rw [List.take_succ_eq_append_getElem hi, h3, hr, List.map_append]; rfl
    ·intro x hx
     rcases List.mem_append.1 hx with hx | hx
     ·exact h4 x hx
     ·rw [List.mem_singleton] at hx; rw [hx]; exact hok
  ·rw [if_neg (by simpa using hi)]
   refine .inr ⟨rs, ?_, h4, rfl⟩
   rw [← h3, List.take_of_length_le (by omega)]
theorem checkAll_spec (l : List ByteArray) (hs : l.length ≤ 4611686018427387904) (hb : ∀ s, s ∈ l → s.size ≤ 900000000000000) :
  (∃ e : Int, e ≠ 0 ∧ f_rat_CheckAll fuel l = some e) ∨ ∃ rs : List Rat, l = rs.map rt ∧ (∀ r, r ∈ rs → OkR r) ∧ f_rat_CheckAll fuel l = some 0 := by
 unfold f_rat_CheckAll
 have hf := fuel_ge (n := 2 ^ 100) (by decide)
 rcases checkAll_loop l hs hb fuel 0 [] (by omega) (by omega) rfl (fun _ h => by cases h) with ⟨e, e0, h⟩ | ⟨rs, h1, h2, h⟩
 ·have h : l_rat_CheckAll_2 fuel l (l.length : Int) 0 = _ := h
  rw [h]
  exact .inl ⟨e, e0, rfl⟩
 ·have h : l_rat_CheckAll_2 fuel l (l.length : Int) 0 = _ := h
  rw [h]
  exact .inr ⟨rs, h1, h2, rfl⟩
theorem rt_inj {r s : Rat} (h : rt r = rt s) : r = s := by
 have := congrArg bt h
 unfold rt at this
 rw [bt_sb (by_rtb r), bt_sb (by_rtb s)] at this
 exact rtb_inj this
theorem map_rt_inj : ∀ {a b : List Rat}, a.map rt = b.map rt → a = b := fun {_ _} h => (List.map_inj_right fun _ _ e => rt_inj e).1 h
theorem rt_small {r : Rat} (h : OkR r) : (rt r).size ≤ 900000000000000 := by
 have := okr_len h
 unfold rt
 rw [sb_size]; omega
theorem checkAll_ok (rs : List Rat) (hs : rs.length ≤ 4611686018427387904) (h : ∀ r, r ∈ rs → OkR r) : f_rat_CheckAll fuel (rs.map rt) = some 0 := by
 unfold f_rat_CheckAll
 have hf := fuel_ge (n := 2 ^ 100) (by decide)
 have key : ∀ (m i : Nat), i ≤ rs.length → rs.length < m + i → l_rat_CheckAll_2 m (rs.map rt) ((rs.map rt).length : Int) (i : Int) = some (.exit ()) := by
  intro m
  induction m with
  | zero => intro i h1 h2; omega
  | succ m ih =>
   intro i h1 h2
   simp only [l_rat_CheckAll_2, List.length_map]
   by_cases hi : i < rs.length
   ·have e4 : IntKind.i64.wrap ((i : Int) + 1) = ((i + 1 : Nat) : Int) := by rw [w64 _ (by omega) (by omega)]; omega
    rw [if_pos (by simpa using hi), if_pos (by omega), if_pos (by omega), Int.toNat_natCast, getD_mapR rs i hi, e4, rcheck_ok (h _ (by rw [getD_eq rs i 0 hi]; exact List.getElem_mem hi)), Option.bind_some, if_neg (by decide)]
    have := ih (i + 1) (by omega) (by omega)
    rw [List.length_map] at this
    exact this
   ·rw [if_neg (by simpa using hi)]
 have := key fuel 0 (by omega) (by omega)
 have : l_rat_CheckAll_2 fuel (rs.map rt) ((rs.map rt).length : Int) 0 = _ := this
 rw [this]
end Go.Proofs.YtnhdjbbdgegkgaaDoor
