/- What the functions on texts of numbers compute: Check, Read, Text. -/
import Derived.Test.YtcdcoeofhnfjdaaDoorNe
import Derived.Test.YtcdcoeofhnfjdaaDoorVmD
namespace Go.Proofs.YtcdcoeofhnfjdaaDoor
open Go Vm
theorem yb2 (l : List Nat) (hb : By l) (hs : l.length ≤ 4611686018427387904) : ∀ (m i : Nat), i ≤ l.length → l.length < m + i →
  z66 m (zs l) (l.length : Int) (i : Int) = if ∀ c, c ∈ l.drop i → 48 ≤ c ∧ c ≤ 57 then some (.exit ()) else some (.ret (5, ()))
 | 0, i, h1, h2 => by omega
 | m + 1, i, h1, h2 => by
  simp only [z66]
  by_cases hi : i < l.length
  ·have e0 : (0 : Int) ≤ (i : Int) := by omega
   have e1 : (i : Int) < (l.length : Int) := by omega
   have e4 : IntKind.i64.wrap ((i : Int) + 1) = ((i + 1 : Nat) : Int) := by rw [w64 _ (by omega) (by omega)]; omega
   simp only [z1f, Int.toNat_natCast, z65, e0, e1, if_true, decide_true, e4]
   have hd : l.drop i = l.getD i 0 :: l.drop (i + 1) := by rw [List.drop_eq_getElem_cons hi, z36 l i 0 hi]
   rw [yb2 l hb hs m (i + 1) (by omega) (by omega), hd]
   by_cases h3 : l.getD i 0 < 48
   ·rw [if_neg (by simp only [decide_eq_false_iff_not]; omega), if_neg (fun h => by have := h _ (List.mem_cons_self ..); omega)]
   ·rw [if_pos (by simp only [decide_eq_false_iff_not]; omega)]
    by_cases h4 : 57 < l.getD i 0
    ·rw [if_pos (by simp only [decide_eq_true_eq]; omega), if_neg (fun h => by have := h _ (List.mem_cons_self ..); omega)]
    ·rw [if_neg (by simp only [decide_eq_true_eq]; omega)]
     by_cases h5 : ∀ c, c ∈ l.drop (i + 1) → 48 ≤ c ∧ c ≤ 57
     ·rw [if_pos h5, if_pos (fun c hc => by
        rcases List.mem_cons.1 hc with rfl | hc
        · omega
        · exact h5 c hc)]
     ·rw [if_neg h5, if_neg (fun h => h5 fun c hc => h c (List.mem_cons_of_mem _ hc))]
  ·have e1 : ¬ (i : Int) < (l.length : Int) := by omega
   simp only [e1, decide_false, Bool.false_eq_true, if_false]
   rw [List.drop_of_length_le (by omega), if_pos (fun c hc => by cases hc)]
theorem y8b (l : List Nat) (hb : By l) (hs : l.length ≤ 4611686018427387904) : z61 fuel (sb l) =
  if l = [] then some 5 else if l.getD 0 0 = 48 ∧ 1 < l.length then some 5 else if ∀ c, c ∈ l → 48 ≤ c ∧ c ≤ 57 then (if 2000 < l.length then some 2 else some 0) else some 5 := by
 unfold z61
 have hf := z82 (n := 2 ^ 100) (by decide)
 rw [w8j, w2j hb yk1, z45, w13 hb, w5q hb, z1f]
 by_cases h0 : l = []
 ·rw [if_neg (by simp [h0]), if_pos h0]
 ·have hl : 0 < l.length := List.length_pos_iff.2 h0
  rw [if_pos (by simp [h0]), if_pos (by omega), if_neg h0]
  have hloop := yb2 l hb hs fuel 0 (by omega) (by omega)
  rw [List.drop_zero] at hloop
  have hloop : z66 fuel (zs l) (l.length : Int) 0 = _ := hloop
  rw [hloop]
  have hbig : decide ((l.length : Int) > 2000) = decide (2000 < l.length) := decide_eq_decide.2 (by omega)
  by_cases h1 : l.getD 0 0 = 48
  ·rw [if_pos (by rw [h1]; rfl)]
   by_cases h2 : 1 < l.length
   ·rw [if_pos (by simp only [decide_eq_true_eq]; omega), if_pos ⟨h1, h2⟩]
   ·have hA : ¬ (l.getD 0 0 = 48 ∧ 1 < l.length) := fun h => h2 h.2
    rw [if_neg (by simp only [decide_eq_true_eq]; omega)]
    simp only [if_neg hA]
    by_cases h3 : ∀ c, c ∈ l → 48 ≤ c ∧ c ≤ 57
    ·simp only [if_pos h3, hbig, decide_eq_true_eq]
    ·simp only [if_neg h3]
  ·have hA : ¬ (l.getD 0 0 = 48 ∧ 1 < l.length) := fun h => h1 h.1
   rw [if_neg (fun e => h1 (by have := beq_iff_eq.1 e; omega))]
   simp only [if_neg hA]
   by_cases h3 : ∀ c, c ∈ l → 48 ≤ c ∧ c ≤ 57
   ·simp only [if_pos h3, hbig, decide_eq_true_eq]
   ·simp only [if_neg h3]
theorem we4 (n : Nat) : ∀ c, c ∈ dt n → 48 ≤ c ∧ c ≤ 57 := fun c hc => by
 obtain ⟨d, hd, rfl⟩ := List.mem_map.1 hc
 have := w1b n d hd
 omega
theorem w6j (n : Nat) (h : (dig n).length ≤ 1000000) : z61 fuel (txt n) = some (if (dig n).length ≤ 2000 then 0 else 2) := by
 have hl : (dt n).length = (dig n).length := by rw [dt, List.length_map]
 have hp := z5k n
 unfold txt
 rw [y8b _ (y88 n) (by omega), if_neg (fun e => by rw [e] at hl; simp at hl; omega)]
 rw [if_neg]
 ·rw [if_pos (we4 n), hl]
  by_cases h1 : (dig n).length ≤ 2000
  ·rw [if_neg (by omega), if_pos h1]
  ·rw [if_pos (by omega), if_neg h1]
 ·rintro ⟨h1, h2⟩
  by_cases h0 : n = 0
  ·subst h0
   have : dt 0 = [48] := by simp [dt, dig]
   rw [this] at h2
   simp at h2
  ·have := yz7 h0
   unfold dt at h1
   cases hd : dig n with
   | nil => rw [hd] at hp; simp at hp
   | cons c l =>
    rw [hd] at this h1
    have h1 : 48 + c = 48 := h1
    apply this
    rw [show c = 0 by omega]
    rfl
theorem y16 (s : ByteArray) (hs : s.size ≤ 4611686018427387904) : (∃ e : Int, e ≠ 0 ∧ z61 fuel s = some e ∧ ∀ n, s = txt n → 2000 < (dig n).length) ∨ ∃ n, s = txt n ∧ (dig n).length ≤ 2000 ∧ z61 fuel s = some 0 := by
 have e := wg5 s
 have hb := wd1 s
 have hl : s.size = (bt s).length := by rw [← z45, e]
 generalize bt s = l at *
 subst e
 rw [y8b l hb (by omega)]
 have no : ∀ n, sb l = txt n → l = dt n := fun n h => by
  have := congrArg bt h
  unfold txt at this
  rwa [ye7 hb, ye7 (y88 n)] at this
 by_cases h0 : l = []
 ·rw [if_pos h0]
  refine .inl ⟨5, by decide, rfl, fun n h => ?_⟩
  have := no n h
  have hp := z5k n
  rw [h0] at this
  have := congrArg List.length this
  simp [dt] at this
  simp [this] at hp
 ·rw [if_neg h0]
  by_cases h1 : l.getD 0 0 = 48 ∧ 1 < l.length
  ·rw [if_pos h1]
   refine .inl ⟨5, by decide, rfl, fun n h => ?_⟩
   have h2 := no n h
   subst h2
   by_cases hn : n = 0
   ·subst hn
    have : dt 0 = [48] := by simp [dt, dig]
    rw [this] at h1
    simp at h1
   ·exfalso
    have := yz7 hn
    have h1 := h1.1
    unfold dt at h1
    cases hd : dig n with
    | nil => have hp := z5k n; rw [hd] at hp; simp at hp
    | cons c l =>
     rw [hd] at this h1
     have h1 : 48 + c = 48 := h1
     apply this
     rw [show c = 0 by omega]
     rfl
  ·rw [if_neg h1]
   by_cases h3 : ∀ c, c ∈ l → 48 ≤ c ∧ c ≤ 57
   ·rw [if_pos h3]
    have ⟨ds, hds⟩ : ∃ ds : List Nat, l = ds.map (48 + ·) := ⟨l.map (· - 48), by
      rw [List.map_map]
      refine ((List.map_congr_left (g := id) fun c hc => ?_).trans (List.map_id l)).symm
      have := h3 c hc
      show 48 + (c - 48) = c
      omega⟩
    subst hds
    have hT : Tn ds := fun c hc => by have := h3 (48 + c) (List.mem_map.2 ⟨c, hc, rfl⟩); omega
    have hd : ds = dig (dv 0 ds) := wd8 hT (by
      cases ds with
      | nil => exact absurd rfl h0
      | cons c r =>
        by_cases hc : c = 0
        · subst hc
          cases r with
          | nil => exact .inl rfl
          | cons d r => exact absurd ⟨rfl, by simp⟩ h1
        · exact .inr ⟨by simp, by simp [hc]⟩)
    have htx : sb (ds.map (48 + ·)) = txt (dv 0 ds) := by unfold txt dt; rw [← hd]
    rw [List.length_map]
    by_cases h4 : 2000 < ds.length
    ·rw [if_pos h4]
     refine .inl ⟨2, by decide, rfl, fun n h => ?_⟩
     have := no n h
     unfold dt at this
     rw [← yn1 this]
     exact h4
    ·rw [if_neg h4]
     exact .inr ⟨dv 0 ds, htx, by rw [← hd]; omega, rfl⟩
   ·rw [if_neg h3]
    refine .inl ⟨5, by decide, rfl, fun n h => ?_⟩
    have := no n h
    subst this
    exact absurd (we4 n) h3
theorem yn7 (l : List Nat) (hl : Tn l) (hs : l.length ≤ 9) : ∀ (m i d : Nat), i ≤ l.length → l.length < m + i → d < 10 ^ i →
  z90 m (d : Int) (zs (l.map (48 + ·))) (l.length : Int) (i : Int) = some (.exit (((dv d (l.drop i) : Nat) : Int), ()))
 | 0, i, d, h1, h2, h3 => by omega
 | m + 1, i, d, h1, h2, h3 => by
  simp only [z90]
  by_cases hi : i < l.length
  ·have e0 : (0 : Int) ≤ (i : Int) := by omega
   have e1 : (i : Int) < (l.length : Int) := by omega
   have e4 : IntKind.i64.wrap ((i : Int) + 1) = ((i + 1 : Nat) : Int) := by rw [w64 _ (by omega) (by omega)]; omega
   have hc := hl (l.getD i 0) (by rw [z36 l i 0 hi]; exact List.getElem_mem hi)
   have hg : (l.map (48 + ·)).getD i 0 = 48 + l.getD i 0 := by
    rw [z36 _ i 0 (by simpa using hi), z36 l i 0 hi, List.getElem_map]
   have hd : d < 100000000 := Nat.lt_of_lt_of_le h3 (Nat.le_trans (Nat.pow_le_pow_right (by decide) (show i ≤ 8 by omega)) (by decide))
   simp only [List.length_map, Int.toNat_natCast, z65, hg, e0, e1, if_true, decide_true, e4]
   rw [show ((48 + l.getD i 0 : Nat) : Int) - 48 = ((l.getD i 0 : Nat) : Int) by omega, u8n (by omega), u32n (by omega), show ((d : Int) * 10) = ((d * 10 : Nat) : Int) by omega, u32n (by omega), ← Int.natCast_add, u32n (by omega)]
   rw [yn7 l hl hs m (i + 1) (d * 10 + l.getD i 0) (by omega) (by omega) (by rw [Nat.pow_succ]; omega)]
   rw [List.drop_eq_getElem_cons hi, dv, z36 l i 0 hi]
  ·have e1 : ¬ (i : Int) < (l.length : Int) := by omega
   simp only [e1, decide_false, Bool.false_eq_true, if_false]
   rw [List.drop_of_length_le (by omega)]
   rfl
theorem yo3 (l : List Nat) (hl : Tn l) (hs : l.length ≤ 4194304) : ∀ (m : Nat) (z : Int) (out : List Nat), z ≤ (l.length : Int) → -9223372036854775800 ≤ z → z.toNat + 100 < m → Dg out → out.length + z.toNat ≤ 4194304 →
  ∃ out', z8z m (sb (l.map (48 + ·))) z (zs out) = some (.exit (zs out', ())) ∧ Dg out' ∧ out'.length ≤ 4194304 ∧ vl out' = vl out + 1000000000 ^ out.length * dv 0 (l.take z.toNat)
 | 0, z, out, h1, h1', h2, h3, h4 => by omega
 | m + 1, z, out, h1, h1', h2, h3, h4 => by
  simp only [z8z]
  by_cases hz : z > 0
  ·obtain ⟨e, rfl⟩ : ∃ e : Nat, z = e := ⟨z.toNat, by omega⟩
   have hw : IntKind.i64.wrap ((e : Int) - 9) = (e : Int) - 9 := w64 _ (by omega) (by omega)
   have hmx : (if (e : Int) - 9 > 0 then (e : Int) - 9 else 0) = ((e - 9 : Nat) : Int) := by split <;> omega
   have hB : By (l.map (48 + ·)) := w3b hl
   have e1 : decide ((e : Int) > 0) = true := by simpa using hz
   have e2 : (0 : Int) ≤ (e : Int) := by omega
   have e3 : (e : Int) ≤ ((sb (l.map (48 + ·))).size : Int) := by rw [z45, List.length_map]; exact h1
   have e4 : (0 : Int) ≤ ((e - 9 : Nat) : Int) := by omega
   have e5 : ((e - 9 : Nat) : Int) ≤ (e : Int) := by omega
   have e6 : (out.length + 1) * 4 ≤ 140737488355328 := by omega
   have hx : ((l.map (48 + ·)).take e).drop (e - 9) = ((l.take e).drop (e - 9)).map (48 + ·) := by rw [List.map_drop, List.map_take]
   have hT : Tn ((l.take e).drop (e - 9)) := fun c hc => hl c (List.mem_of_mem_take (List.mem_of_mem_drop hc))
   have hlen : ((l.take e).drop (e - 9)).length ≤ 9 := by rw [List.length_drop, List.length_take]; omega
   have hp := yn7 _ hT hlen m 0 0 (by omega) (by omega) (by decide)
   have hp : z90 m 0 _ _ 0 = _ := hp
   rw [List.drop_zero] at hp
   simp only [e1, hw, hmx, e2, e3, e4, e5, if_true, Int.toNat_natCast, zb6, hx, w13 (w3b hT), List.length_map]
   rw [hp]
   simp only
   have hlt := we9 hT
   have hlt9 : dv 0 ((l.take e).drop (e - 9)) < 1000000000 := Nat.lt_of_lt_of_le hlt (Nat.le_trans (Nat.pow_le_pow_right (by decide) hlen) (by decide))
   rw [if_pos e6, y0y]
   obtain ⟨out', g, k1, k2, k3⟩ := yo3 l hl hs m ((e : Int) - 9) (out ++ [dv 0 ((l.take e).drop (e - 9))]) (by omega) (by omega) (by omega) (z9g.2 ⟨h3, zj4.2 ⟨hlt9, y1v⟩⟩) (by simp; omega)
   refine ⟨out', g, k1, k2, ?_⟩
   rw [k3, z9q, List.length_append, List.length_singleton, z55, show ((e : Int) - 9).toNat = e - 9 by omega]
   have hsp := w6t (l.take e) (e - 9) (by rw [List.length_take]; omega)
   rw [List.take_take, Nat.min_eq_left (by omega), List.length_take, Nat.min_eq_left (show e ≤ l.length by omega)] at hsp
   simp only [vl, Nat.mul_zero, Nat.add_zero]
   rw [hsp]
   by_cases h9 : 9 ≤ e
   ·rw [show e - (e - 9) = 9 by omega, show (10 : Nat) ^ 9 = 1000000000 by decide]
    grind
   ·rw [show e - 9 = 0 by omega, List.take_zero, dv]
    simp
  ·have e1 : decide (z > 0) = false := by simpa using hz
   simp only [e1, Bool.false_eq_true, if_false]
   refine ⟨out, rfl, h3, by omega, ?_⟩
   rw [show z.toNat = 0 by omega, List.take_zero]
   simp [dv]
theorem wa6 (n : Nat) (h : (dig n).length ≤ 4194304) : z3s fuel (txt n) = some (zs (cn n)) := by
 unfold z3s
 have hf := zr1
 obtain ⟨out', g, k1, k2, k3⟩ := yo3 (dig n) (w1b n) h fuel ((dig n).length : Int) [] (by omega) (by omega) (by omega) y1v (by simp; omega)
 have g : z8z fuel (txt n) ((dig n).length : Int) [] = _ := g
 rw [w1d, g]
 simp only [z1f]
 obtain ⟨j, e2, k5⟩ := y4t fuel out'.length out' k1 (by omega) (by omega) (by omega)
 rw [e2]
 show some ((zs out').take j) = _
 rw [List.take_length] at k5
 rw [y9p, k5, k3]
 simp only [vl, List.length_nil, Nat.pow_zero, Nat.zero_add, Nat.one_mul, Int.toNat_natCast, List.take_length, w3w]
theorem yb4 : ∀ (m j d : Nat) (part : List Nat), j ≤ 9 → j < m → part.length = 9 → d < 4294967296 →
  z53 m (d : Int) ((j : Int) - 1) (zs part) = some (.exit (zs ((pd j d).map (48 + ·) ++ part.drop j), ()))
 | 0, j, d, part, h1, h2, h3, h4 => by omega
 | m + 1, 0, d, part, h1, h2, h3, h4 => by
  simp only [z53]
  simp [pd]
 | m + 1, j + 1, d, part, h1, h2, h3, h4 => by
  simp only [z53]
  have hi : ((j + 1 : Nat) : Int) - 1 = (j : Int) := by omega
  have e0 : (0 : Int) ≤ (j : Int) := by omega
  have e1 : (j : Int) < 9 := by omega
  have hw : IntKind.i64.wrap ((j : Int) - 1) = (j : Int) - 1 := w64 _ (by omega) (by omega)
  have hT : (10 : Int) = ((10 : Nat) : Int) := rfl
  have hF : (48 : Int) = ((48 : Nat) : Int) := rfl
  simp only [hi, e0, e1, hw, decide_true, if_true, Int.toNat_natCast]
  rw [hT, hF]
  simp (disch := omega) only [w7s, wb4, ← Int.natCast_add, u32n, u8n]
  rw [zg7, yb4 m j (d / 10) (part.set j (48 + d % 10)) (by omega) (by omega) (by rw [List.length_set]; exact h3) (by omega)]
  have : (part.set j (48 + d % 10)).drop j = (48 + d % 10) :: part.drop (j + 1) := by
   rw [List.drop_eq_getElem_cons (by rw [List.length_set]; omega), List.getElem_set_self, List.drop_set_of_lt (by omega)]
  rw [this, pd, List.map_append, List.append_assoc]
  rfl
theorem yq0 (l : List Nat) (hl : Dg l) (hs : l.length ≤ 8388608) : ∀ (m i : Nat) (out : List Nat), i ≤ l.length → i + 100 < m → out.length + 9 * i ≤ 100000000 →
  z5p m (zs l) ((i : Int) - 1) (zs out) = some (.exit (zs (out ++ (bg l i).map (48 + ·)), ()))
 | 0, i, out, h1, h2, h3 => by omega
 | m + 1, 0, out, h1, h2, h3 => by
  simp only [z5p]
  simp [bg]
 | m + 1, i + 1, out, h1, h2, h3 => by
  simp only [z5p]
  have hi : ((i + 1 : Nat) : Int) - 1 = (i : Int) := by omega
  have e0 : (0 : Int) ≤ (i : Int) := by omega
  have e1 : (i : Int) < (l.length : Int) := by omega
  have hw : IntKind.i64.wrap ((i : Int) - 1) = (i : Int) - 1 := w64 _ (by omega) (by omega)
  have dl := z4q hl i
  have hd := yb4 m 9 (l.getD i 0) (List.replicate 9 0) (by omega) (by omega) (by simp) (by omega)
  have hd : z53 m ((l.getD i 0 : Nat) : Int) 8 (zs (List.replicate 9 0)) = _ := hd
  have hlen : (zs ((pd 9 (l.getD i 0)).map (48 + ·) ++ (List.replicate 9 0).drop 9)).take 9 = zs ((pd 9 (l.getD i 0)).map (48 + ·)) := by
   rw [y9p, List.take_append_of_le_length (by rw [List.length_map, zs0]; omega), List.take_of_length_le (by rw [List.length_map, zs0]; omega)]
  simp only [hi, e0, e1, hw, z1f, decide_true, if_true, Int.toNat_natCast, z65]
  rw [yq9, hd]
  simp only [hlen, List.drop_zero, List.length_map, zs0]
  rw [if_pos (by omega), show zs out ++ zs ((pd 9 (l.getD i 0)).map (48 + ·)) = zs (out ++ (pd 9 (l.getD i 0)).map (48 + ·)) by rw [zs, zs, zs, ← List.map_append],
    yq0 l hl hs m i (out ++ (pd 9 (l.getD i 0)).map (48 + ·)) (by omega) (by omega) (by rw [List.length_append, List.length_map, zs0]; omega), bg, List.map_append, List.append_assoc]
theorem ym4 : ∀ (m : Nat) (l : List Nat), Tn l → l.length < m → l.length ≤ 100000000 → z2z m (sb (l.map (48 + ·))) 48 = some (.exit (sb ((l.dropWhile (· == 0)).map (48 + ·)), ()))
 | 0, l, h, h1, h2 => by omega
 | m + 1, [], h, h1, h2 => by
  simp only [z2z]
  rfl
 | m + 1, c :: l, h, h1, h2 => by
  simp only [z2z]
  have hB : By ((c :: l).map (48 + ·)) := w3b h
  have hg : (((c :: l).map (48 + ·)).getD 0 0) = 48 + c := rfl
  rw [z45, w5q hB, hg, if_pos (by simp only [List.length_map, List.length_cons, decide_eq_true_eq]; omega), if_pos (by simp only [List.length_map, List.length_cons]; omega)]
  by_cases hc : c = 0
  ·subst hc
   have hx : (sb (((0 : Nat) :: l).map (48 + ·))).extract 1 (List.length ((0 :: l).map (48 + ·))) = sb (l.map (48 + ·)) := by
    rw [zb6, List.take_length]; rfl
   rw [if_pos (by rfl), if_pos (by simp only [List.length_map, List.length_cons]; omega), hx, ym4 m l (fun c hc => h c (List.mem_cons_of_mem _ hc)) (by simpa using h1) (by simp at h2; omega), List.dropWhile_cons_of_pos (by rfl)]
  ·rw [if_neg (by intro e; apply hc; simp at e; omega), List.dropWhile_cons_of_neg (by simpa using hc)]
theorem w9s (l : List Nat) (h : Tn l) (hs : l.length ≤ 100000000) : z6s fuel (sb (l.map (48 + ·))) (⟨#[48]⟩ : ByteArray) = some (sb ((l.dropWhile (· == 0)).map (48 + ·))) := by
 unfold z6s
 have hf := zr1
 have h48 : (⟨#[48]⟩ : ByteArray) = sb [48] := rfl
 have hB : By (l.map (48 + ·)) := w3b h
 have hB48 : By [48] := fun c hc => by rw [List.mem_singleton] at hc; omega
 rw [h48, w8j, w2j hB yk1]
 by_cases h0 : l = []
 ·subst h0
  rw [if_neg (by simp)]
  rfl
 ·have s1 : (((sb [48]).size : Nat) : Int) = 1 := rfl
  have e : (((sb [48]).data.getD 0 0).toNat : Int) = 48 := rfl
  rw [if_pos (by simp [h0]), w2j hB48 yk1, if_neg (by simp)]
  simp only [s1, e]
  rw [if_pos (by decide), if_pos (by decide), if_pos (by decide), if_pos (by decide)]
  unfold z6l
  rw [ym4 fuel l h (by omega) hs]
  rfl
theorem yh6 (n : Nat) (h : (cn n).length ≤ 8388608) : z6w fuel (zs (cn n)) = some (txt n) := by
 unfold z6w
 have hf := zr1
 simp only [z1f]
 by_cases h0 : n = 0
 ·subst h0
  rw [z4p, if_pos (by rfl)]
  congr 1
 ·have hl := z8v h0
  rw [if_neg (fun e => by have := beq_iff_eq.1 e; omega)]
  have hw : IntKind.i64.wrap (9 * ((cn n).length : Int)) = ((9 * (cn n).length : Nat) : Int) := by rw [w64 _ (by omega) (by omega)]; omega
  rw [hw, if_pos (by omega), if_pos (by omega), w64 _ (by omega) (by omega)]
  have := yq0 (cn n) (y07 n) h fuel (cn n).length [] (by omega) (by omega) (by simp; omega)
  have : z5p fuel (zs (cn n)) (((cn n).length : Int) - 1) (List.replicate 0 0) = _ := this
  rw [this]
  simp only [List.nil_append]
  rw [wj5, w9s _ (wb5 _ _) (by rw [y87]; omega), Option.bind_some, we3 (wb5 _ _), we8 (y07 n) _ (Nat.le_refl _), List.take_length, y4x]
  unfold txt dt dig
  rw [if_neg h0]
end Go.Proofs.YtcdcoeofhnfjdaaDoor
