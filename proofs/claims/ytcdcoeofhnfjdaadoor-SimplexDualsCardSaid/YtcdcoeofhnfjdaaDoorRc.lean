/- Which texts are those of rational numbers: Check, CheckAll. -/
import Derived.Test.YtcdcoeofhnfjdaaDoorRb
namespace Go.Proofs.YtcdcoeofhnfjdaaDoor
open Go Vm
theorem w3h {n : Nat} (h : Sz n) (h0 : 0 < n) : z4i fuel (zs (cn n)) (zs (cn 1)) = some (if n = 1 then 0 else 1) := by
 rw [yz3 h (y9i h0 h), if_neg (show ¬ n < 1 by omega)]
 by_cases h1 : n = 1
 ·rw [if_neg (by omega), if_pos h1]
 ·rw [if_pos (by omega), if_neg h1]
theorem y9b {r : Rat} (h : OkR r) : z6y fuel (rt r) = some 0 := by
 unfold z6y
 obtain ⟨rest, e1, e2⟩ := y4m r (by have := yw0 h; omega)
 rw [e1, Option.bind_some, e2, Option.bind_some, yk4 h.1, Option.bind_some]
 by_cases hd : r.den = 1
 ·have b : (!decide (r.den = 1)) = false := by simp [hd]
  simp only [b, Bool.false_eq_true, if_false]
  by_cases hn : r.num < 0
  ·have b2 : decide (r.num < 0) = true := by simpa using hn
   rw [if_pos (by decide)]
   simp only [b2, if_true]
   rw [y1c, y2h, if_neg (by rw [decide_eq_true_eq]; omega), if_pos (by decide)]
  ·have b2 : decide (r.num < 0) = false := by simpa using hn
   rw [if_pos (by decide)]
   simp only [b2, Bool.false_eq_true, if_false]
   rw [if_pos (by decide)]
 ·have b : (!decide (r.den = 1)) = true := by simp [hd]
  have hz : Sz r.num.natAbs := w57 h.1
  have hz2 : Sz r.den := w57 h.2
  have h0 := r.den_nz
  have hg : Nat.gcd r.num.natAbs r.den = 1 := r.reduced
  have tail : (z3s fuel (txt r.num.natAbs)).bind (fun r5 => (z3s fuel (txt r.den)).bind fun r6 => (z62 fuel r5 r6).bind fun r7 => (z5u fuel 1).bind fun r8 => (z4i fuel r7 r8).bind fun r9 => if (r9 != 0) = true then some 3 else some 0) = some (0 : Int) := by
   rw [y19 h.1, Option.bind_some, y19 h.2, Option.bind_some, w4d hz hz2, Option.bind_some, of_one, Option.bind_some, hg, w3h (y9i (by omega) hz2) (by decide), Option.bind_some]
   rfl
  simp only [b, if_true, if_neg hd]
  rw [yk4 h.2, Option.bind_some, if_pos (by decide), if_pos (by decide)]
  by_cases hn : r.num < 0
  ·have b2 : decide (r.num < 0) = true := by simpa using hn
   simp only [b2, if_true]
   rw [y1c, y2h, if_neg (by rw [decide_eq_true_eq]; omega), if_pos (by decide), if_neg (by decide), y2h, if_pos (by simpa using h0), yh9, y2h, if_pos (by simpa using hd)]
   exact tail
  ·have b2 : decide (r.num < 0) = false := by simpa using hn
   simp only [b2, Bool.false_eq_true, if_false]
   rw [y1c, if_pos (by decide), if_neg (by decide), y2h, if_pos (by simpa using h0), yh9, y2h, if_pos (by simpa using hd)]
   exact tail
theorem w0k {neg : Bool} {m d : Nat} (hm : m ≠ 0) (hd : d ≠ 0) (hg : Nat.gcd m d = 1) : (mkRat (sgn neg m) d).num.natAbs = m ∧ (mkRat (sgn neg m) d).den = d ∧ decide ((mkRat (sgn neg m) d).num < 0) = neg := by
 have := y5f neg hm hd
 rwa [hg, Nat.div_one, Nat.div_one] at this
theorem yw4 (s : ByteArray) (hs : s.size ≤ 900000000000000) : (∃ e : Int, e ≠ 0 ∧ z6y fuel s = some e) ∨ ∃ r, s = rt r ∧ OkR r := by
 have e := wg5 s
 have hb := wd1 s
 have hl : s.size = (bt s).length := by rw [← z45, e]
 generalize bt s = l at *
 subst e
 -- sign
 obtain ⟨neg, l', e1, hl', hsign⟩ : ∃ (neg : Bool) (l' : List Nat), z2m fuel (sb l) (⟨#[45]⟩ : ByteArray) = some (sb l', neg) ∧ l'.length ≤ 900000000000000 ∧ l = (if neg then [45] else []) ++ l' := by
  by_cases h : l.head? = some 45
  ·cases l with
   | nil => cases h
   | cons c r =>
    simp only [List.head?_cons, Option.some.injEq] at h
    subst h
    simp only [List.length_cons] at hl
    exact ⟨true, r, yz4 r (fun c hc => hb c (List.mem_cons_of_mem _ hc)) (by omega), by omega, rfl⟩
  ·exact ⟨false, l, w3p l hb h (by omega), by omega, rfl⟩
 have hb' : By l' := fun c hc => hb c (by rw [hsign]; exact List.mem_append_right _ hc)
 unfold z6y
 rw [e1, Option.bind_some]
 by_cases h47 : 47 ∈ l'
 ·obtain ⟨p, q, hpq, hp⟩ : ∃ p q, l' = p ++ 47 :: q ∧ 47 ∉ p := by
   have : ∀ (l : List Nat), 47 ∈ l → ∃ p q, l = p ++ 47 :: q ∧ 47 ∉ p := by
    intro l
    induction l with
    | nil => intro h; cases h
    | cons c l ih =>
     intro h
     by_cases hc : c = 47
     ·subst hc; exact ⟨[], l, rfl, by simp⟩
     ·obtain ⟨p, q, rfl, hp⟩ := ih (by
        rcases List.mem_cons.1 h with h | h
        · exact absurd h.symm hc
        · exact h)
      refine ⟨c :: p, q, rfl, fun hm => ?_⟩
      rcases List.mem_cons.1 hm with h | h
      ·exact hc h.symm
      ·exact hp h
   exact this l' h47
  subst hpq
  simp only [List.length_append, List.length_cons] at hl'
  have hbp : By p := (y3v.1 hb').1
  have hbq : By q := fun c hc => (y3v.1 hb').2 c (List.mem_cons_of_mem _ hc)
  rw [w3o p q hbp hp (by omega), Option.bind_some]
  simp only [if_true]
  rcases y16 (sb p) (by rw [z45]; omega) with ⟨x, x0, ex, _⟩ | ⟨m, em, hm, ex⟩
  ·rw [ex, Option.bind_some]
   refine .inl ?_
   rcases y16 (sb q) (by rw [z45]; omega) with ⟨y, y0, ey, _⟩ | ⟨d, ed, hd, ey⟩
   ·rw [ey, Option.bind_some]
    by_cases x5 : x = 5
    ·rw [if_neg (by simp [x5])]; exact ⟨5, by decide, rfl⟩
    rw [if_pos (by simpa using x5)]
    by_cases y5 : y = 5
    ·rw [if_neg (by simp [y5])]; exact ⟨5, by decide, rfl⟩
    rw [if_pos (by simpa using y5)]
    have k : ((x != 0) = false) = False := by simp [x0]
    simp only [k, if_false]
    split
    ·split
     ·exact ⟨5, by decide, rfl⟩
     ·exact ⟨2, by decide, rfl⟩
    ·exact ⟨2, by decide, rfl⟩
   ·rw [ey, Option.bind_some]
    by_cases x5 : x = 5
    ·rw [if_neg (by simp [x5])]; exact ⟨5, by decide, rfl⟩
    rw [if_pos (by simpa using x5), if_pos (by decide)]
    have k : ((x != 0) = false) = False := by simp [x0]
    simp only [k, if_false]
    split
    ·split
     ·exact ⟨5, by decide, rfl⟩
     ·exact ⟨2, by decide, rfl⟩
    ·exact ⟨2, by decide, rfl⟩
  ·rw [ex, Option.bind_some]
   rcases y16 (sb q) (by rw [z45]; omega) with ⟨y, y0, ey, _⟩ | ⟨d, ed, hd, ey⟩
   ·rw [ey, Option.bind_some]
    refine .inl ?_
    rw [if_pos (by decide)]
    by_cases y5 : y = 5
    ·rw [if_neg (by simp [y5])]; exact ⟨5, by decide, rfl⟩
    rw [if_pos (by simpa using y5)]
    have k : ((y != 0) = true) = True := by simp [y0]
    simp only [k, if_true, show (((0 : Int) != 0) = false) = True by decide]
    split
    ·split
     ·exact ⟨5, by decide, rfl⟩
     ·exact ⟨2, by decide, rfl⟩
    ·exact ⟨2, by decide, rfl⟩
   ·rw [ey, Option.bind_some, if_pos (by decide), if_pos (by decide), em, ed, y1c, yh9]
    simp only [y2h, show (((0 : Int) != 0) = false) = True by decide, show (((0 : Int) != 0) = true) = False by decide, if_true, if_false]
    have hom : Ok m := hm
    have hod : Ok d := hd
    have rd : 0 < Nat.gcd m d ∨ (m = 0 ∧ d = 0) := by
     rcases Nat.eq_zero_or_pos (Nat.gcd m d) with h | h
     ·exact .inr (Nat.gcd_eq_zero_iff.1 h)
     ·exact .inl h
    by_cases hd0 : d = 0
    ·refine .inl ?_
     have b : (decide (d = 0) = false) = False := by simp [hd0]
     simp only [b, if_false]
     split
     ·split
      ·exact ⟨5, by decide, rfl⟩
      ·exact ⟨3, by decide, rfl⟩
     ·exact ⟨3, by decide, rfl⟩
    have b0 : (decide (d = 0) = false) = True := by simp [hd0]
    by_cases hd1 : d = 1
    ·refine .inl ?_
     have b : (decide (d = 1) = false) = False := by simp [hd1]
     simp only [b0, b, if_true, if_false]
     split
     ·split
      ·exact ⟨5, by decide, rfl⟩
      ·exact ⟨3, by decide, rfl⟩
     ·exact ⟨3, by decide, rfl⟩
    have b1 : (decide (d = 1) = false) = True := by simp [hd1]
    have hgp : 0 < Nat.gcd m d := by omega
    have hgz : Sz (Nat.gcd m d) := y9i (Nat.le_of_dvd (by omega) (Nat.gcd_dvd_right m d)) (w57 hod)
    simp only [b0, b1, if_true]
    rw [y19 hom, Option.bind_some, y19 hod, Option.bind_some, w4d (w57 hom) (w57 hod), Option.bind_some, of_one, Option.bind_some, w3h hgz hgp, Option.bind_some]
    by_cases hg : Nat.gcd m d = 1
    ·simp only [if_pos hg, show (((0 : Int) != 0) = true) = False by decide, if_false]
     have hm0 : m ≠ 0 := fun e => by rw [e, Nat.gcd_zero_left] at hg; exact hd1 hg
     refine .inr ⟨mkRat (sgn neg m) d, ?_, ?_⟩
     ·obtain ⟨p1, p2, p3⟩ := w0k (neg := neg) hm0 hd0 hg
      have hpm : p = dt m := by
       have := congrArg bt em
       unfold txt at this
       rwa [ye7 hbp, ye7 (y88 m)] at this
      have hqd : q = dt d := by
       have := congrArg bt ed
       unfold txt at this
       rwa [ye7 hbq, ye7 (y88 d)] at this
      unfold rt rtb
      rw [hsign, p1, p2, hpm, hqd, if_neg hd1]
      congr 1
      cases neg
      ·rw [if_neg (show ¬ (mkRat (sgn false m) d).num < 0 by simpa using p3)]; rfl
      ·rw [if_pos (show (mkRat (sgn true m) d).num < 0 by simpa using p3)]; rfl
     ·obtain ⟨p1, p2, _⟩ := w0k (neg := neg) hm0 hd0 hg
      exact ⟨by rw [p1]; exact hom, by rw [p2]; exact hod⟩
    ·simp only [if_neg hg, show (((1 : Int) != 0) = true) = True by decide, if_true]
     refine .inl ?_
     split
     ·split
      ·exact ⟨5, by decide, rfl⟩
      ·exact ⟨3, by decide, rfl⟩
     ·exact ⟨3, by decide, rfl⟩
 ·rw [w80 l' hb' h47, Option.bind_some]
  simp only [Bool.false_eq_true, if_false]
  rcases y16 (sb l') (by rw [z45]; omega) with ⟨x, x0, ex, _⟩ | ⟨m, em, hm, ex⟩
  ·rw [ex, Option.bind_some]
   refine .inl ?_
   by_cases x5 : x = 5
   ·rw [if_neg (by simp [x5])]; exact ⟨5, by decide, rfl⟩
   rw [if_pos (by simpa using x5)]
   have k : ((x != 0) = false) = False := by simp [x0]
   simp only [k, if_false]
   split
   ·split
    ·exact ⟨5, by decide, rfl⟩
    ·exact ⟨2, by decide, rfl⟩
   ·exact ⟨2, by decide, rfl⟩
  ·rw [ex, Option.bind_some, if_pos (by decide), em, y1c]
   simp only [y2h, show (((0 : Int) != 0) = false) = True by decide, if_true]
   by_cases hbad : neg = true ∧ m = 0
   ·refine .inl ⟨5, by decide, ?_⟩
    rw [if_pos hbad.1, if_pos (by simpa using hbad.2)]
   ·have hlm : l' = dt m := by
     have := congrArg bt em
     unfold txt at this
     rwa [ye7 hb', ye7 (y88 m)] at this
    have v1 : (mkRat (sgn neg m) 1).num = sgn neg m ∧ (mkRat (sgn neg m) 1).den = 1 := by
     rw [Rat.mkRat_one]; exact ⟨rfl, rfl⟩
    refine .inr ⟨mkRat (sgn neg m) 1, ?_, ?_⟩
    ·unfold rt rtb
     rw [hsign, hlm, v1.1, v1.2, yh3, if_pos rfl, List.append_nil]
     congr 1
     cases neg
     ·rw [if_neg (show ¬ sgn false m < 0 by simp [sgn])]; rfl
     ·have : m ≠ 0 := fun e => hbad ⟨rfl, e⟩
      rw [if_pos (show sgn true m < 0 by simp [sgn]; omega)]; rfl
    ·refine ⟨?_, ?_⟩
     ·rw [v1.1, yh3]; exact hm
     ·rw [v1.2]; exact w7f (k := 1) (by decide) (by decide) (by decide)
theorem yl8 (l : List Rat) (i : Nat) (h : i < l.length) : (l.map rt).getD i ByteArray.empty = rt (l.getD i 0) := by
 simp only [List.getD_eq_getElem?_getD, List.getElem?_map]
 rw [List.getElem?_eq_getElem h]; rfl
theorem y3y (l : List ByteArray) (hs : l.length ≤ 4611686018427387904) (hb : ∀ s, s ∈ l → s.size ≤ 900000000000000) : ∀ (m i : Nat) (rs : List Rat), i ≤ l.length → l.length < m + i → l.take i = rs.map rt → (∀ r, r ∈ rs → OkR r) →
  (∃ e : Int, e ≠ 0 ∧ z2q m l (l.length : Int) (i : Int) = some (.ret (e, ()))) ∨ ∃ rs : List Rat, l = rs.map rt ∧ (∀ r, r ∈ rs → OkR r) ∧ z2q m l (l.length : Int) (i : Int) = some (.exit ())
 | 0, i, rs, h1, h2, h3, h4 => by omega
 | m + 1, i, rs, h1, h2, h3, h4 => by
  simp only [z2q]
  by_cases hi : i < l.length
  ·have e4 : IntKind.i64.wrap ((i : Int) + 1) = ((i + 1 : Nat) : Int) := by rw [w64 _ (by omega) (by omega)]; omega
   rw [if_pos (by simpa using hi), if_pos (by omega), if_pos (by omega), Int.toNat_natCast, z36 l i _ hi, e4]
   rcases yw4 l[i] (hb _ (List.getElem_mem hi)) with ⟨e, e0, h⟩ | ⟨r, hr, hok⟩
   ·rw [h, Option.bind_some, if_pos (ne0 e0)]
    exact .inl ⟨e, e0, rfl⟩
   ·rw [hr, y9b hok, Option.bind_some, if_neg (by decide)]
    refine y3y l hs hb m (i + 1) (rs ++ [r]) (by omega) (by omega) ?_ ?_
    ·rw [List.take_succ_eq_append_getElem hi, h3, hr, List.map_append]; rfl
    ·intro x hx
     rcases List.mem_append.1 hx with hx | hx
     ·exact h4 x hx
     ·rw [List.mem_singleton] at hx; rw [hx]; exact hok
  ·rw [if_neg (by simpa using hi)]
   refine .inr ⟨rs, ?_, h4, rfl⟩
   rw [← h3, List.take_of_length_le (by omega)]
theorem ye8 (l : List ByteArray) (hs : l.length ≤ 4611686018427387904) (hb : ∀ s, s ∈ l → s.size ≤ 900000000000000) :
  (∃ e : Int, e ≠ 0 ∧ z5l fuel l = some e) ∨ ∃ rs : List Rat, l = rs.map rt ∧ (∀ r, r ∈ rs → OkR r) ∧ z5l fuel l = some 0 := by
 unfold z5l
 have hf := z82 (n := 2 ^ 100) (by decide)
 rcases y3y l hs hb fuel 0 [] (by omega) (by omega) rfl (fun _ h => by cases h) with ⟨e, e0, h⟩ | ⟨rs, h1, h2, h⟩
 ·have h : z2q fuel l (l.length : Int) 0 = _ := h
  rw [h]
  exact .inl ⟨e, e0, rfl⟩
 ·have h : z2q fuel l (l.length : Int) 0 = _ := h
  rw [h]
  exact .inr ⟨rs, h1, h2, rfl⟩
theorem w7l {r : Rat} (h : OkR r) : (rt r).size ≤ 900000000000000 := by
 have := yw0 h
 unfold rt
 rw [z45]; omega
theorem y89 (rs : List Rat) (hs : rs.length ≤ 4611686018427387904) (h : ∀ r, r ∈ rs → OkR r) : z5l fuel (rs.map rt) = some 0 := by
 unfold z5l
 have hf := z82 (n := 2 ^ 100) (by decide)
 have key : ∀ (m i : Nat), i ≤ rs.length → rs.length < m + i → z2q m (rs.map rt) ((rs.map rt).length : Int) (i : Int) = some (.exit ()) := by
  intro m
  induction m with
  | zero => intro i h1 h2; omega
  | succ m ih =>
   intro i h1 h2
   simp only [z2q, List.length_map]
   by_cases hi : i < rs.length
   ·have e4 : IntKind.i64.wrap ((i : Int) + 1) = ((i + 1 : Nat) : Int) := by rw [w64 _ (by omega) (by omega)]; omega
    rw [if_pos (by simpa using hi), if_pos (by omega), if_pos (by omega), Int.toNat_natCast, yl8 rs i hi, e4, y9b (h _ (by rw [z36 rs i 0 hi]; exact List.getElem_mem hi)), Option.bind_some, if_neg (by decide)]
    have := ih (i + 1) (by omega) (by omega)
    rw [List.length_map] at this
    exact this
   ·rw [if_neg (by simpa using hi)]
 have := key fuel 0 (by omega) (by omega)
 have : z2q fuel (rs.map rt) ((rs.map rt).length : Int) 0 = _ := this
 rw [this]
end Go.Proofs.YtcdcoeofhnfjdaaDoor
