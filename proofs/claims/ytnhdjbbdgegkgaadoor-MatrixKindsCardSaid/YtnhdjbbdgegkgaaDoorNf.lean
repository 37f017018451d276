/- What the functions on texts of numbers compute: Check, Read, Text. -/
import Derived.Test.YtnhdjbbdgegkgaaDoorNe
import Derived.Test.YtnhdjbbdgegkgaaDoorVmD
namespace Go.Proofs.YtnhdjbbdgegkgaaDoor
open Go Vm
theorem check_loop (l : List Nat) (hb : By l) (hs : l.length ≤ 4611686018427387904) : ∀ (m i : Nat), i ≤ l.length → l.length < m + i →
  l_nat_Check_4 m (zs l) (l.length : Int) (i : Int) = if ∀ c, c ∈ l.drop i → 48 ≤ c ∧ c ≤ 57 then some (.exit ()) else some (.ret (5, ()))
 | 0, i, h1, h2 => by omega
 | m + 1, i, h1, h2 => by
  simp only [l_nat_Check_4]
  by_cases hi : i < l.length
  ·have e0 : (0 : Int) ≤ (i : Int) := by omega
   have e1 : (i : Int) < (l.length : Int) := by omega
   have e4 : IntKind.i64.wrap ((i : Int) + 1) = ((i + 1 : Nat) : Int) := by rw [w64 _ (by omega) (by omega)]; omega
   simp only [length_zs, Int.toNat_natCast, getD_zs, e0, e1, if_true, decide_true, e4]
   have hd : l.drop i = l.getD i 0 :: l.drop (i + 1) := by rw [List.drop_eq_getElem_cons hi, getD_eq l i 0 hi]
   rw [check_loop l hb hs m (i + 1) (by omega) (by omega), hd]
   by_cases h3 : l.getD i 0 < 48
   ·rw [if_neg (by simp only [decide_eq_false_iff_not]; omega), if_neg (fun h => by have := h _ (List.mem_cons_self ..); omega)]
   ·rw [if_pos (by simp only [decide_eq_false_iff_not]; omega)]
    by_cases h4 : 57 < l.getD i 0
    ·rw [if_pos (by simp only [decide_eq_true_eq]; omega), if_neg (fun h => by have := h _ (List.mem_cons_self ..); omega)]
    ·rw [if_neg (by simp only [decide_eq_true_eq]; omega)]
     by_cases h5 : ∀ c, c ∈ l.drop (i + 1) → 48 ≤ c ∧ c ≤ 57
     ·rw [if_pos h5, if_pos (fun c hc => by
        rcases List.mem_cons.1 hc with rfl | hc
        · omega
        · exact h5 c hc)]
     ·rw [if_neg h5, if_neg (fun h => h5 fun c hc => h c (List.mem_cons_of_mem _ hc))]
  ·have e1 : ¬ (i : Int) < (l.length : Int) := by omega
   simp only [e1, decide_false, Bool.false_eq_true, if_false]
   rw [List.drop_of_length_le (by omega), if_pos (fun c hc => by cases hc)]
theorem check_bytes (l : List Nat) (hb : By l) (hs : l.length ≤ 4611686018427387904) : f_nat_Check fuel (sb l) =
  if l = [] then some 5 else if l.getD 0 0 = 48 ∧ 1 < l.length then some 5 else if ∀ c, c ∈ l → 48 ≤ c ∧ c ≤ 57 then (if 2000 < l.length then some 2 else some 0) else some 5 := by
 unfold f_nat_Check
 have hf := fuel_ge (n := 2 ^ 100) (by decide)
 rw [nil_sb, sb_eq hb by_nil, sb_size, sb_bytes hb, sb_getD hb, length_zs]
 by_cases h0 : l = []
 ·rw [if_neg (by simp [h0]), if_pos h0]
 ·have hl : 0 < l.length := List.length_pos_iff.2 h0
  rw [if_pos (by simp [h0]), if_pos (by omega), if_neg h0]
  have hloop := check_loop l hb hs fuel 0 (by omega) (by omega)
  rw [List.drop_zero] at hloop
  have hloop : l_nat_Check_4 fuel (zs l) (l.length : Int) 0 = _ := hloop
  rw [hloop]
  have hbig : decide ((l.length : Int) > 2000) = decide (2000 < l.length) := decide_eq_decide.2 (by omega)
  by_cases h1 : l.getD 0 0 = 48
  ·rw [if_pos (by rw [h1]; rfl)]
   by_cases h2 : 1 < l.length
   ·rw [if_pos (by simp only [decide_eq_true_eq]; omega), if_pos ⟨h1, h2⟩]
   ·have hA : ¬ (l.getD 0 0 = 48 ∧ 1 < l.length) := fun h => h2 h.2
    rw [if_neg (by simp only [decide_eq_true_eq]; omega)]
    simp only [if_neg hA]
    by_cases h3 : ∀ c, c ∈ l → 48 ≤ c ∧ c ≤ 57
    ·simp only [if_pos h3, hbig, decide_eq_true_eq]
    ·simp only [if_neg h3]
  ·have hA : ¬ (l.getD 0 0 = 48 ∧ 1 < l.length) := fun h => h1 h.1
   rw [if_neg (fun e => h1 (by have := beq_iff_eq.1 e; omega))]
   simp only [if_neg hA]
   by_cases h3 : ∀ c, c ∈ l → 48 ≤ c ∧ c ≤ 57
   ·simp only [if_pos h3, hbig, decide_eq_true_eq]
   ·simp only [if_neg h3]
theorem dt_cs (n : Nat) : ∀ c, c ∈ dt n → 48 ≤ c ∧ c ≤ 57 := fun c hc => by
 obtain ⟨d, hd, rfl⟩ := List.mem_map.1 hc
 have := tn_dig n d hd
 omega
theorem check_ok (n : Nat) (h : (dig n).length ≤ 1000000) : f_nat_Check fuel (txt n) = some (if (dig n).length ≤ 2000 then 0 else 2) := by
 have hl : (dt n).length = (dig n).length := by rw [dt, List.length_map]
 have hp := dig_len_pos n
 unfold txt
 rw [check_bytes _ (by_dt n) (by omega), if_neg (fun e => by rw [e] at hl; simp at hl; omega)]
 rw [if_neg]
 ·rw [if_pos (dt_cs n), hl]
  by_cases h1 : (dig n).length ≤ 2000
  ·rw [if_neg (by omega), if_pos h1]
  ·rw [if_pos (by omega), if_neg h1]
 ·rintro ⟨h1, h2⟩
  by_cases h0 : n = 0
  ·subst h0
   have : dt 0 = [48] := by simp [dt, dig]
   rw [this] at h2
   simp at h2
  ·have := dig_head h0
   unfold dt at h1
   cases hd : dig n with
   | nil => rw [hd] at hp; simp at hp
   | cons c l =>
    rw [hd] at this h1
    have h1 : 48 + c = 48 := h1
    apply this
    rw [show c = 0 by omega]
    rfl
theorem check_spec (s : ByteArray) (hs : s.size ≤ 4611686018427387904) : (∃ e : Int, e ≠ 0 ∧ f_nat_Check fuel s = some e ∧ ∀ n, s = txt n → 2000 < (dig n).length) ∨ ∃ n, s = txt n ∧ (dig n).length ≤ 2000 ∧ f_nat_Check fuel s = some 0 := by
 have e := sb_bt s
 have hb := by_bt s
 have hl : s.size = (bt s).length := by rw [← sb_size, e]
 generalize bt s = l at *
 subst e
 rw [check_bytes l hb (by omega)]
 have no : ∀ n, sb l = txt n → l = dt n := fun n h => by
  have := congrArg bt h
  unfold txt at this
  rwa [bt_sb hb, bt_sb (by_dt n)] at this
 by_cases h0 : l = []
 ·rw [if_pos h0]
  refine .inl ⟨5, by decide, rfl, fun n h => ?_⟩
  have := no n h
  have hp := dig_len_pos n
  rw [h0] at this
  have := congrArg List.length this
  simp [dt] at this
  simp [this] at hp
 ·rw [if_neg h0]
  by_cases h1 : l.getD 0 0 = 48 ∧ 1 < l.length
  ·rw [if_pos h1]
   refine .inl ⟨5, by decide, rfl, fun n h => ?_⟩
   have h2 := no n h
   subst h2
   by_cases hn : n = 0
   ·subst hn
    have : dt 0 = [48] := by simp [dt, dig]
    rw [this] at h1
    simp at h1
   ·exfalso
    have := dig_head hn
    have h1 := h1.1
    unfold dt at h1
    cases hd : dig n with
    | nil => have hp := dig_len_pos n; rw [hd] at hp; simp at hp
    | cons c l =>
     rw [hd] at this h1
     have h1 : 48 + c = 48 := h1
     apply this
     rw [show c = 0 by omega]
     rfl
  ·rw [if_neg h1]
   by_cases h3 : ∀ c, c ∈ l → 48 ≤ c ∧ c ≤ 57
   ·rw [if_pos h3]
    have ⟨ds, hds⟩ : ∃ ds : List Nat, l = ds.map (48 + ·) := ⟨l.map (· - 48), by
      rw [List.map_map]
      refine ((List.map_congr_left (g := id) fun c hc => ?_).trans (List.map_id l)).symm
      have := h3 c hc
      show 48 + (c - 48) = c
      omega⟩
    subst hds
    have hT : Tn ds := fun c hc => by have := h3 (48 + c) (List.mem_map.2 ⟨c, hc, rfl⟩); omega
    have hd : ds = dig (dv 0 ds) := dig_of hT (by
      cases ds with
      | nil => exact absurd rfl h0
      | cons c r =>
        by_cases hc : c = 0
        · subst hc
          cases r with
          | nil => exact .inl rfl
          | cons d r => exact absurd ⟨rfl, by simp⟩ h1
        · exact .inr ⟨by simp, by simp [hc]⟩)
    have htx : sb (ds.map (48 + ·)) = txt (dv 0 ds) := by unfold txt dt; rw [← hd]
    rw [List.length_map]
    by_cases h4 : 2000 < ds.length
    ·rw [if_pos h4]
     refine .inl ⟨2, by decide, rfl, fun n h => ?_⟩
     have := no n h
     unfold dt at this
     rw [← map48_inj this]
     exact h4
    ·rw [if_neg h4]
     exact .inr ⟨dv 0 ds, htx, by rw [← hd]; omega, rfl⟩
   ·rw [if_neg h3]
    refine .inl ⟨5, by decide, rfl, fun n h => ?_⟩
    have := no n h
    subst this
    exact absurd (dt_cs n) h3
theorem part_loop (l : List Nat) (hl : Tn l) (hs : l.length ≤ 9) : ∀ (m i d : Nat), i ≤ l.length → l.length < m + i → d < 10 ^ i →
  l_nat_Read_7 m (d : Int) (zs (l.map (48 + ·))) (l.length : Int) (i : Int) = some (.exit (((dv d (l.drop i) : Nat) : Int), ()))
 | 0, i, d, h1, h2, h3 => by omega
 | m + 1, i, d, h1, h2, h3 => by
  simp only [l_nat_Read_7]
  by_cases hi : i < l.length
  ·have e0 : (0 : Int) ≤ (i : Int) := by omega
   have e1 : (i : Int) < (l.length : Int) := by omega
   have e4 : IntKind.i64.wrap ((i : Int) + 1) = ((i + 1 : Nat) : Int) := by rw [w64 _ (by omega) (by omega)]; omega
   have hc := hl (l.getD i 0) (by rw [getD_eq l i 0 hi]; exact List.getElem_mem hi)
   have hg : (l.map (48 + ·)).getD i 0 = 48 + l.getD i 0 := by
    rw [getD_eq _ i 0 (by simpa using hi), getD_eq l i 0 hi, List.getElem_map]
   have hd : d < 100000000 := Nat.lt_of_lt_of_le h3 (Nat.le_trans (Nat.pow_le_pow_right (by decide) (show i ≤ 8 by omega)) (by decide))
   simp only [List.length_map, Int.toNat_natCast, getD_zs, hg, e0, e1, if_true, decide_true, e4]
   rw [show ((48 + l.getD i 0 : Nat) : Int) - 48 = ((l.getD i 0 : Nat) : Int) by omega, u8n (by omega), u32n (by omega), show ((d : Int) * 10) = ((d * 10 : Nat) : Int) by omega, u32n (by omega), ← Int.natCast_add, u32n (by omega)]
   rw [part_loop l hl hs m (i + 1) (d * 10 + l.getD i 0) (by omega) (by omega) (by rw [Nat.pow_succ]; omega)]
   rw [List.drop_eq_getElem_cons hi, dv, getD_eq l i 0 hi]
  ·have e1 : ¬ (i : Int) < (l.length : Int) := by omega
   simp only [e1, decide_false, Bool.false_eq_true, if_false]
   rw [List.drop_of_length_le (by omega)]
   rfl
theorem read_loop (l : List Nat) (hl : Tn l) (hs : l.length ≤ 4194304) : ∀ (m : Nat) (z : Int) (out : List Nat), z ≤ (l.length : Int) → -9223372036854775800 ≤ z → z.toNat + 100 < m → Dg out → out.length + z.toNat ≤ 4194304 →
  ∃ out', l_nat_Read_3 m (sb (l.map (48 + ·))) z (zs out) = some (.exit (zs out', ())) ∧ Dg out' ∧ out'.length ≤ 4194304 ∧ vl out' = vl out + 1000000000 ^ out.length * dv 0 (l.take z.toNat)
 | 0, z, out, h1, h1', h2, h3, h4 => by omega
 | m + 1, z, out, h1, h1', h2, h3, h4 => by
  simp only [l_nat_Read_3]
  by_cases hz : z > 0
  ·obtain ⟨e, rfl⟩ : ∃ e : Nat, z = e := ⟨z.toNat, by omega⟩
   have hw : IntKind.i64.wrap ((e : Int) - 9) = (e : Int) - 9 := w64 _ (by omega) (by omega)
   have hmx : (if (e : Int) - 9 > 0 then (e : Int) - 9 else 0) = ((e - 9 : Nat) : Int) := by split <;> omega
   have hB : By (l.map (48 + ·)) := by_48 hl
   have e1 : decide ((e : Int) > 0) = true := by simpa using hz
   have e2 : (0 : Int) ≤ (e : Int) := by omega
   have e3 : (e : Int) ≤ ((sb (l.map (48 + ·))).size : Int) := by rw [sb_size, List.length_map]; exact h1
   have e4 : (0 : Int) ≤ ((e - 9 : Nat) : Int) := by omega
   have e5 : ((e - 9 : Nat) : Int) ≤ (e : Int) := by omega
   have e6 : (out.length + 1) * 4 ≤ 140737488355328 := by omega
   have hx : ((l.map (48 + ·)).take e).drop (e - 9) = ((l.take e).drop (e - 9)).map (48 + ·) := by rw [List.map_drop, List.map_take]
   have hT : Tn ((l.take e).drop (e - 9)) := fun c hc => hl c (List.mem_of_mem_take (List.mem_of_mem_drop hc))
   have hlen : ((l.take e).drop (e - 9)).length ≤ 9 := by rw [List.length_drop, List.length_take]; omega
   have hp := part_loop _ hT hlen m 0 0 (by omega) (by omega) (by decide)
   have hp : l_nat_Read_7 m 0 _ _ 0 = _ := hp
   rw [List.drop_zero] at hp
   simp only [e1, hw, hmx, e2, e3, e4, e5, if_true, Int.toNat_natCast, sb_extract, hx, sb_bytes (by_48 hT), List.length_map]
   rw [hp]
   simp only
   have hlt := dv_lt hT
   have hlt9 : dv 0 ((l.take e).drop (e - 9)) < 1000000000 := Nat.lt_of_lt_of_le hlt (Nat.le_trans (Nat.pow_le_pow_right (by decide) hlen) (by decide))
   rw [if_pos e6, zs_snoc]
   obtain ⟨out', g, k1, k2, k3⟩ := read_loop l hl hs m ((e : Int) - 9) (out ++ [dv 0 ((l.take e).drop (e - 9))]) (by omega) (by omega) (by omega) (dg_append.2 ⟨h3, dg_cons.2 ⟨hlt9, dg_nil⟩⟩) (by simp; omega)
   refine ⟨out', g, k1, k2, ?_⟩
   rw [k3, vl_append, List.length_append, List.length_singleton, pow_succ9, show ((e : Int) - 9).toNat = e - 9 by omega]
   have hsp := dv_split (l.take e) (e - 9) (by rw [List.length_take]; omega)
   rw [List.take_take, Nat.min_eq_left (by omega), List.length_take, Nat.min_eq_left (show e ≤ l.length by omega)] at hsp
   simp only [vl, Nat.mul_zero, Nat.add_zero]
   rw [hsp]
   by_cases h9 : 9 ≤ e
   ·rw [show e - (e - 9) = 9 by omega, show (10 : Nat) ^ 9 = 1000000000 by decide]
    grind
   ·rw [show e - 9 = 0 by omega, List.take_zero, dv]
    simp
  ·have e1 : decide (z > 0) = false := by simpa using hz
   simp only [e1, Bool.false_eq_true, if_false]
   refine ⟨out, rfl, h3, by omega, ?_⟩
   rw [show z.toNat = 0 by omega, List.take_zero]
   simp [dv]
theorem read_ok (n : Nat) (h : (dig n).length ≤ 4194304) : f_nat_Read fuel (txt n) = some (zs (cn n)) := by
 unfold f_nat_Read
 have hf := fuel40
 obtain ⟨out', g, k1, k2, k3⟩ := read_loop (dig n) (tn_dig n) h fuel ((dig n).length : Int) [] (by omega) (by omega) (by omega) dg_nil (by simp; omega)
 have g : l_nat_Read_3 fuel (txt n) ((dig n).length : Int) [] = _ := g
 rw [txt_size, g]
 simp only [length_zs]
 obtain ⟨j, e2, k5⟩ := trimRead_loop fuel out'.length out' k1 (by omega) (by omega) (by omega)
 rw [e2]
 show some ((zs out').take j) = _
 rw [List.take_length] at k5
 rw [zs_take, k5, k3]
 simp only [vl, List.length_nil, Nat.pow_zero, Nat.zero_add, Nat.one_mul, Int.toNat_natCast, List.take_length, dv_dig]
theorem digit_loop : ∀ (m j d : Nat) (part : List Nat), j ≤ 9 → j < m → part.length = 9 → d < 4294967296 →
  l_nat_N_Text_10 m (d : Int) ((j : Int) - 1) (zs part) = some (.exit (zs ((pd j d).map (48 + ·) ++ part.drop j), ()))
 | 0, j, d, part, h1, h2, h3, h4 => by omega
 | m + 1, 0, d, part, h1, h2, h3, h4 => by
  simp only [l_nat_N_Text_10]
  simp [pd]
 | m + 1, j + 1, d, part, h1, h2, h3, h4 => by
  simp only [l_nat_N_Text_10]
  have hi : ((j + 1 : Nat) : Int) - 1 = (j : Int) := by omega
  have e0 : (0 : Int) ≤ (j : Int) := by omega
  have e1 : (j : Int) < 9 := by omega
  have hw : IntKind.i64.wrap ((j : Int) - 1) = (j : Int) - 1 := w64 _ (by omega) (by omega)
  have hT : (10 : Int) = ((10 : Nat) : Int) := rfl
  have hF : (48 : Int) = ((48 : Nat) : Int) := rfl
  simp only [hi, e0, e1, hw, decide_true, if_true, Int.toNat_natCast]
  rw [hT, hF]
  simp (disch := omega) only [tdivN, tmodN, ← Int.natCast_add, u32n, u8n]
  rw [set_zs, digit_loop m j (d / 10) (part.set j (48 + d % 10)) (by omega) (by omega) (by rw [List.length_set]; exact h3) (by omega)]
  have : (part.set j (48 + d % 10)).drop j = (48 + d % 10) :: part.drop (j + 1) := by
   rw [List.drop_eq_getElem_cons (by rw [List.length_set]; omega), List.getElem_set_self, List.drop_set_of_lt (by omega)]
  rw [this, pd, List.map_append, List.append_assoc]
  rfl
theorem text_loop (l : List Nat) (hl : Dg l) (hs : l.length ≤ 8388608) : ∀ (m i : Nat) (out : List Nat), i ≤ l.length → i + 100 < m → out.length + 9 * i ≤ 100000000 →
  l_nat_N_Text_5 m (zs l) ((i : Int) - 1) (zs out) = some (.exit (zs (out ++ (bg l i).map (48 + ·)), ()))
 | 0, i, out, h1, h2, h3 => by omega
 | m + 1, 0, out, h1, h2, h3 => by
  simp only [l_nat_N_Text_5]
  simp [bg]
 | m + 1, i + 1, out, h1, h2, h3 => by
  simp only [l_nat_N_Text_5]
  have hi : ((i + 1 : Nat) : Int) - 1 = (i : Int) := by omega
  have e0 : (0 : Int) ≤ (i : Int) := by omega
  have e1 : (i : Int) < (l.length : Int) := by omega
  have hw : IntKind.i64.wrap ((i : Int) - 1) = (i : Int) - 1 := w64 _ (by omega) (by omega)
  have dl := dg_getD hl i
  have hd := digit_loop m 9 (l.getD i 0) (List.replicate 9 0) (by omega) (by omega) (by simp) (by omega)
  have hd : l_nat_N_Text_10 m ((l.getD i 0 : Nat) : Int) 8 (zs (List.replicate 9 0)) = _ := hd
  have hlen : (zs ((pd 9 (l.getD i 0)).map (48 + ·) ++ (List.replicate 9 0).drop 9)).take 9 = zs ((pd 9 (l.getD i 0)).map (48 + ·)) := by
   rw [zs_take, List.take_append_of_le_length (by rw [List.length_map, pd_length]; omega), List.take_of_length_le (by rw [List.length_map, pd_length]; omega)]
  simp only [hi, e0, e1, hw, length_zs, decide_true, if_true, Int.toNat_natCast, getD_zs]
  rw [zs_rep, hd]
  simp only [hlen, List.drop_zero, List.length_map, pd_length]
  rw [if_pos (by omega), show zs out ++ zs ((pd 9 (l.getD i 0)).map (48 + ·)) = zs (out ++ (pd 9 (l.getD i 0)).map (48 + ·)) by rw [zs, zs, zs, ← List.map_append],
    text_loop l hl hs m i (out ++ (pd 9 (l.getD i 0)).map (48 + ·)) (by omega) (by omega) (by rw [List.length_append, List.length_map, pd_length]; omega), bg, List.map_append, List.append_assoc]
theorem left_loop : ∀ (m : Nat) (l : List Nat), Tn l → l.length < m → l.length ≤ 100000000 → l_strings_trimLeftByte_1 m (sb (l.map (48 + ·))) 48 = some (.exit (sb ((l.dropWhile (· == 0)).map (48 + ·)), ()))
 | 0, l, h, h1, h2 => by omega
 | m + 1, [], h, h1, h2 => by
  simp only [l_strings_trimLeftByte_1]
  rfl
 | m + 1, c :: l, h, h1, h2 => by
  simp only [l_strings_trimLeftByte_1]
  have hB : By ((c :: l).map (48 + ·)) := by_48 h
  have hg : (((c :: l).map (48 + ·)).getD 0 0) = 48 + c := rfl
  rw [sb_size, sb_getD hB, hg, if_pos (by simp only [List.length_map, List.length_cons, decide_eq_true_eq]; omega), if_pos (by simp only [List.length_map, List.length_cons]; omega)]
  by_cases hc : c = 0
  ·subst hc
   have hx : (sb (((0 : Nat) :: l).map (48 + ·))).extract 1 (List.length ((0 :: l).map (48 + ·))) = sb (l.map (48 + ·)) := by
    rw [sb_extract, List.take_length]; rfl
   rw [if_pos (by rfl), if_pos (by simp only [List.length_map, List.length_cons]; omega), hx, left_loop m l (fun c hc => h c (List.mem_cons_of_mem _ hc)) (by simpa using h1) (by simp at h2; omega), List.dropWhile_cons_of_pos (by rfl)]
  ·rw [if_neg (by intro e; apply hc; simp at e; omega), List.dropWhile_cons_of_neg (by simpa using hc)]
theorem left_ok (l : List Nat) (h : Tn l) (hs : l.length ≤ 100000000) : f_strings_TrimLeft fuel (sb (l.map (48 + ·))) (⟨#[48]⟩ : ByteArray) = some (sb ((l.dropWhile (· == 0)).map (48 + ·))) := by
 unfold f_strings_TrimLeft
 have hf := fuel40
 have h48 : (⟨#[48]⟩ : ByteArray) = sb [48] := rfl
 have hB : By (l.map (48 + ·)) := by_48 h
 have hB48 : By [48] := fun c hc => by rw [List.mem_singleton] at hc; omega
 rw [h48, nil_sb, sb_eq hB by_nil]
 by_cases h0 : l = []
 ·subst h0
  rw [if_neg (by simp)]
  rfl
 ·have s1 : (((sb [48]).size : Nat) : Int) = 1 := rfl
  have e : (((sb [48]).data.getD 0 0).toNat : Int) = 48 := rfl
  rw [if_pos (by simp [h0]), sb_eq hB48 by_nil, if_neg (by simp)]
  simp only [s1, e]
  rw [if_pos (by decide), if_pos (by decide), if_pos (by decide), if_pos (by decide)]
  unfold f_strings_trimLeftByte
  rw [left_loop fuel l h (by omega) hs]
  rfl
theorem text_ok (n : Nat) (h : (cn n).length ≤ 8388608) : f_nat_N_Text fuel (zs (cn n)) = some (txt n) := by
 unfold f_nat_N_Text
 have hf := fuel40
 simp only [length_zs]
 by_cases h0 : n = 0
 ·subst h0
  rw [cn_zero, if_pos (by rfl)]
  congr 1
 ·have hl := cn_len_pos h0
  rw [if_neg (fun e => by have := beq_iff_eq.1 e; omega)]
  have hw : IntKind.i64.wrap (9 * ((cn n).length : Int)) = ((9 * (cn n).length : Nat) : Int) := by rw [w64 _ (by omega) (by omega)]; omega
  rw [hw, if_pos (by omega), if_pos (by omega), w64 _ (by omega) (by omega)]
  have := text_loop (cn n) (dg_cn n) h fuel (cn n).length [] (by omega) (by omega) (by simp; omega)
  have : l_nat_N_Text_5 fuel (zs (cn n)) (((cn n).length : Int) - 1) (List.replicate 0 0) = _ := this
  rw [this]
  simp only [List.nil_append]
  rw [sb_of, left_ok _ (tn_bg _ _) (by rw [bg_length]; omega), Option.bind_some, drop0 (tn_bg _ _), dv_bg (dg_cn n) _ (Nat.le_refl _), List.take_length, vl_cn]
  unfold txt dt dig
  rw [if_neg h0]
end Go.Proofs.YtnhdjbbdgegkgaaDoor
