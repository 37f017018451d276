/- What the functions on texts of rational numbers compute: Add, Sub, Mul, Div, Neg, Compare, Sign, Floor. -/
import Derived.Test.YtbcooccafbccdaaGreatDoorRc
namespace Go.Proofs.YtbcooccafbccdaaGreatDoor
open Go Vm

theorem check2 {r s : Rat} (hr : OkR r) (hs : OkR s) : f_rat_CheckAll fuel [rt r, rt s] = some 0 :=
  checkAll_ok [r, s] (by simp) fun x hx => by
    rcases List.mem_cons.1 hx with rfl | hx
    · exact hr
    · rw [List.mem_singleton] at hx; rw [hx]; exact hs

theorem rt_zero : (⟨#[48]⟩ : ByteArray) = rt 0 := txt_zero.trans (rt_nat 0).symm
theorem rt_one : (⟨#[49]⟩ : ByteArray) = rt 1 := txt_one.trans (rt_nat 1).symm
theorem rat_neg {r : Rat} (hr : OkR r) : f_rat_Neg fuel (rt r) = some (rt (-r), 0) := by
  unfold f_rat_Neg
  obtain ⟨x, ex, hx⟩ := in_ok hr
  obtain ⟨z, ez, hz⟩ := qneg_ok hx
  rw [rcheck_ok hr, Option.bind_some, if_neg (by decide), ex, Option.bind_some, ez, Option.bind_some, out_ok hz (dr_neg (okr_dr hr)) (by decide), Option.bind_some]
theorem rat_compare {r s : Rat} (hr : OkR r) (hs : OkR s) : f_rat_Compare fuel (rt r) (rt s) = some ((r - s).num.sign, 0) := by
  unfold f_rat_Compare
  obtain ⟨x, ex, hx⟩ := in_ok hr
  obtain ⟨y, ey, hy⟩ := in_ok hs
  rw [check2 hr hs, Option.bind_some, if_neg (by decide), ex, Option.bind_some, ey, Option.bind_some, qcmp_ok hx hy (okr_dr hr) (okr_dr hs) (by decide), Option.bind_some]
theorem okr_neg {r : Rat} (h : OkR r) : OkR (-r) := ⟨by rw [Rat.neg_num, Int.natAbs_neg]; exact h.1, by rw [Rat.neg_den]; exact h.2⟩
theorem rt_pos (r : Rat) : 0 < (rtb r).length := by
  unfold rtb
  have := dt_ne r.num.natAbs
  have : 0 < (dt r.num.natAbs).length := List.length_pos_iff.2 this
  simp only [List.length_append]
  omega
/-- A number is no greater than its text is long. -/
theorem dr_len (r : Rat) : Dr (rtb r).length r := by
  have hp := rt_pos r
  have l1 : (dt r.num.natAbs).length = (dig r.num.natAbs).length := by rw [dt, List.length_map]
  have l2 : (dt r.den).length = (dig r.den).length := by rw [dt, List.length_map]
  have hl : (rtb r).length = (if r.num < 0 then [45] else ([] : List Nat)).length + ((dt r.num.natAbs).length + (if r.den = 1 then ([] : List Nat) else 47 :: dt r.den).length) := by
    unfold rtb; simp only [List.length_append]
  refine ⟨(dig_length _ _ (by omega)).1 (by omega), ?_⟩
  by_cases h : r.den = 1
  · rw [h]; exact Nat.one_lt_pow (by omega) (by decide)
  · rw [if_neg h, List.length_cons] at hl
    exact (dig_length _ _ (by omega)).1 (by omega)
theorem rt_size (r : Rat) : (rt r).size = (rtb r).length := by unfold rt; rw [sb_size]

theorem check3 {a b c : ByteArray} (ha : a.size ≤ 900000000000000) (hb : b.size ≤ 900000000000000) (hc : c.size ≤ 900000000000000) :
    (∃ e : Int, e ≠ 0 ∧ f_rat_CheckAll fuel [a, b, c] = some e) ∨ ∃ r s t, a = rt r ∧ b = rt s ∧ c = rt t ∧ OkR r ∧ OkR s ∧ OkR t ∧ f_rat_CheckAll fuel [a, b, c] = some 0 := by
  rcases checkAll_spec [a, b, c] (by simp) (fun s hs => by
    rcases List.mem_cons.1 hs with rfl | hs
    · exact ha
    rcases List.mem_cons.1 hs with rfl | hs
    · exact hb
    rw [List.mem_singleton] at hs; rw [hs]; exact hc) with h | ⟨rs, h1, h2, h3⟩
  · exact .inl h
  · match rs, h1 with
    | [r, s, t], h1 =>
      simp only [List.map_cons, List.map_nil, List.cons.injEq, and_true] at h1
      exact .inr ⟨r, s, t, h1.1, h1.2.1, h1.2.2, h2 r (by simp), h2 s (by simp), h2 t (by simp), h3⟩

/-! Floor. -/
theorem low_int (neg : Bool) {p : Nat} (hp : Sz p) (hd : Sz 1) : ∃ q, f_rat_low fuel neg (zs (cn p)) (zs (cn 1)) = some q ∧ QR ((sgn neg p : Int) : Rat) q := by
  obtain ⟨q, e, h⟩ := low_ok neg hp hd (by decide)
  rw [Rat.mkRat_one] at h
  exact ⟨q, e, h⟩
theorem floor_sgn (r : Rat) : r.floor = if r.num < 0 ∧ 0 < r.num.natAbs % r.den then sgn true (r.num.natAbs / r.den + 1) else sgn (decide (r.num < 0)) (r.num.natAbs / r.den) := by
  rw [Rat.floor_def]
  have hd : 0 < r.den := Nat.pos_of_ne_zero r.den_nz
  by_cases h : r.num < 0
  · have hn : r.num = -((r.num.natAbs : Nat) : Int) := by omega
    generalize r.num.natAbs = p at *
    rw [hn] at h ⊢
    have hm := Nat.div_add_mod p r.den
    by_cases h2 : 0 < p % r.den
    · rw [if_pos ⟨h, h2⟩]
      show -((p : Nat) : Int) / (r.den : Int) = -(((p / r.den + 1 : Nat)) : Int)
      have hml := Nat.mod_lt p hd
      have e : -((p : Nat) : Int) = ((r.den - p % r.den : Nat) : Int) + (r.den : Int) * (-(((p / r.den + 1 : Nat)) : Int)) := by
        have h3 : ((p : Nat) : Int) = (r.den : Int) * ((p / r.den : Nat) : Int) + ((p % r.den : Nat) : Int) := by rw [← Int.natCast_mul, ← Int.natCast_add, hm]
        rw [Int.ofNat_sub (Nat.le_of_lt hml), h3, Int.natCast_add (p / r.den) 1]
        generalize ((p / r.den : Nat) : Int) = q at *
        generalize ((p % r.den : Nat) : Int) = m at *
        grind
      rw [e, Int.add_mul_ediv_left _ _ (by omega), Int.ediv_eq_zero_of_lt (by omega) (by omega), Int.zero_add]
    · rw [if_neg (fun x => h2 x.2), show decide (-((p : Nat) : Int) < 0) = true by simpa using h]
      show -((p : Nat) : Int) / (r.den : Int) = -((p / r.den : Nat) : Int)
      have : p = r.den * (p / r.den) := by omega
      rw [Int.neg_ediv_of_dvd (by exact ⟨((p / r.den : Nat) : Int), by rw [← Int.natCast_mul, ← this]⟩), Int.natCast_ediv]
  · have hn : r.num = ((r.num.natAbs : Nat) : Int) := by omega
    rw [if_neg (fun x => h x.1), show decide (r.num < 0) = false by simpa using h]
    show r.num / (r.den : Int) = ((r.num.natAbs / r.den : Nat) : Int)
    rw [Int.natCast_ediv, ← hn]
theorem floor_abs (r : Rat) : r.floor.natAbs ≤ r.num.natAbs := by
  rw [floor_sgn]
  have hd : 0 < r.den := Nat.pos_of_ne_zero r.den_nz
  split
  · rename_i h
    rw [sgn_abs]
    have h1 : r.den ≠ 1 := fun e => by have := h.2; rw [e, Nat.mod_one] at this; omega
    have := Nat.div_lt_self (n := r.num.natAbs) (k := r.den) (by omega) (by omega)
    omega
  · rw [sgn_abs]; exact Nat.div_le_self _ _
theorem dr_floor {r : Rat} {k : Nat} (hr : Dr k r) (hk : 1 ≤ k) : Dr k (r.floor : Rat) :=
  ⟨Nat.lt_of_le_of_lt (by show r.floor.natAbs ≤ _; exact floor_abs r) hr.1, by show 1 < _; exact Nat.one_lt_pow (by omega) (by decide)⟩
theorem okr_floor {r : Rat} (h : OkR r) : OkR (r.floor : Rat) := dr_okr (dr_floor (okr_dr h) (by decide)) (by decide) (by decide)
end Go.Proofs.YtbcooccafbccdaaGreatDoor
