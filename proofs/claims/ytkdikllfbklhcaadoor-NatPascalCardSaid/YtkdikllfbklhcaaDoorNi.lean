/- The plain law of binomials. -/
import Derived.Test.YtkdikllfbklhcaaDoorNg
import Derived.Test.YtkdikllfbklhcaaDoorVmD
namespace Go.Proofs.YtkdikllfbklhcaaDoor
open Go Vm

def fac : Nat → Nat
  | 0 => 1
  | n + 1 => (n + 1) * fac n
def ch : Nat → Nat → Nat
  | _, 0 => 1
  | 0, _ + 1 => 0
  | n + 1, k + 1 => ch n k + ch n (k + 1)
theorem fac_pos : ∀ n, 0 < fac n
  | 0 => by decide
  | n + 1 => Nat.mul_pos (by omega) (fac_pos n)
theorem ch_zero (n : Nat) : ch n 0 = 1 := by cases n <;> rfl
theorem ch_big : ∀ {n k : Nat}, n < k → ch n k = 0
  | 0, k + 1, _ => rfl
  | n + 1, k + 1, h => by rw [ch, ch_big (by omega), ch_big (by omega)]
theorem ch_self : ∀ n, ch n n = 1
  | 0 => rfl
  | n + 1 => by rw [ch, ch_self n, ch_big (by omega)]
theorem ch_fac : ∀ {n k : Nat}, k ≤ n → ch n k * (fac k * fac (n - k)) = fac n
  | n, 0, _ => by rw [ch_zero]; simp [fac]
  | n + 1, k + 1, h => by
    rcases Nat.lt_or_ge k n with hk | hk
    · have h1 := ch_fac (n := n) (k := k) (by omega)
      have h2 := ch_fac (n := n) (k := k + 1) (by omega)
      obtain ⟨d, hd⟩ : ∃ d, n - k = d + 1 := ⟨n - k - 1, by omega⟩
      rw [show n + 1 - (k + 1) = d + 1 by omega]
      rw [hd] at h1
      rw [show n - (k + 1) = d by omega] at h2
      have hn : n + 1 = (k + 1) + (d + 1) := by omega
      rw [ch, fac, fac, fac, hn, Nat.add_mul (k + 1) (d + 1) (fac n)]
      rw [fac] at h1 h2
      have a1 : ch n k * ((k + 1) * fac k * ((d + 1) * fac d)) = (k + 1) * fac n := by rw [← h1]; grind
      have a2 : ch n (k + 1) * ((k + 1) * fac k * ((d + 1) * fac d)) = (d + 1) * fac n := by rw [← h2]; grind
      rw [Nat.add_mul, a1, a2]
    · obtain rfl : k = n := by omega
      rw [ch_self, Nat.sub_self]
      simp [fac]
theorem ch_sym {n k : Nat} (h : k ≤ n) : ch n (n - k) = ch n k := by
  have h1 := ch_fac h
  have h2 := ch_fac (n := n) (k := n - k) (by omega)
  rw [show n - (n - k) = k by omega, Nat.mul_comm (fac (n - k))] at h2
  exact Nat.eq_of_mul_eq_mul_right (Nat.mul_pos (fac_pos _) (fac_pos _)) (h2.trans h1.symm)
theorem ch_step {n k : Nat} (h : k < n) : ch n k * (n - k) / (k + 1) = ch n (k + 1) := by
  have h1 := ch_fac (n := n) (k := k) (by omega)
  have h2 := ch_fac (n := n) (k := k + 1) (by omega)
  obtain ⟨d, hd⟩ : ∃ d, n - k = d + 1 := ⟨n - k - 1, by omega⟩
  rw [show n - (k + 1) = d by omega] at h2
  rw [hd] at h1 ⊢
  rw [fac] at h1 h2
  have : ch n k * (d + 1) = ch n (k + 1) * (k + 1) := by
    apply Nat.eq_of_mul_eq_mul_right (Nat.mul_pos (fac_pos k) (fac_pos d))
    grind
  rw [this, Nat.mul_div_cancel _ (by omega)]
theorem ch_le {n k : Nat} (h : k ≤ n) : ch n k ≤ fac n := by
  rw [← ch_fac h]
  exact Nat.le_mul_of_pos_right _ (Nat.mul_pos (fac_pos _) (fac_pos _))
theorem fac_ok : ∀ n, n ≤ 200 → (dig (fac n)).length ≤ 1 + 3 * n
  | 0, _ => by simp [fac, dig, dec_pos, dec_zero]
  | n + 1, h => by
    have h1 := fac_ok n (by omega)
    have h2 := dig_mul (n + 1) (fac n)
    have h3 := (dig_length (n + 1) 3 (by decide)).2 (by omega)
    rw [fac]
    omega
theorem ok_fac {n : Nat} (h : n ≤ 200) : Ok (fac n) := by have := fac_ok n h; exact ok_of (by omega)
theorem ok_ch {n k : Nat} (h : n ≤ 200) (hk : k ≤ n) : Ok (ch n k) := ok_le (ch_le hk) (ok_fac h)
theorem ok_small {n : Nat} (h : n < 1000) : Ok n := by
  have := (dig_length n 3 (by decide)).2 (by omega)
  exact ok_of (by omega)

theorem of_loop : ∀ (m n : Nat) (out : List Nat), n < 9223372036854775808 → n < m → out.length + n ≤ 10000000 →
    l_nat_Of_2 m (n : Int) (zs out) = some (.exit (zs (out ++ cn n), ()))
  | 0, n, out, h1, h2, h3 => by omega
  | m + 1, n, out, h1, h2, h3 => by
    simp only [l_nat_Of_2]
    by_cases h0 : n = 0
    · subst h0
      rw [if_neg (by decide), cn_zero, List.append_nil]
    · rw [if_pos (by simp; omega), length_zs, if_pos (by omega), tdivB, tmodB, i64n (by omega), u32n (by omega), zs_snoc, of_loop m (n / 1000000000) (out ++ [n % 1000000000]) (by omega) (by omega) (by simp; omega), cn_pos h0, List.append_assoc]
      rfl
theorem of_ok {n : Nat} (h : n ≤ 1000000) : f_nat_Of fuel (n : Int) = some (zs (cn n)) := by
  unfold f_nat_Of
  have hf := fuel40
  have := of_loop fuel n [] (by omega) (by omega) (by simp; omega)
  have : l_nat_Of_2 fuel (n : Int) [] = _ := this
  rw [this]
  rfl

theorem fac_loop (n : Nat) (hn : n ≤ 200) : ∀ (m i : Nat), 1 ≤ i → i ≤ n + 1 → n + 1 < m + i → l_nat_Factorial_5 m (n : Int) ((i + 1 : Nat) : Int) (zs (cn (fac i))) = some (.exit (zs (cn (fac (max i n))), ()))
  | 0, i, h0, h1, h2 => by omega
  | m + 1, i, h0, h1, h2 => by
    simp only [l_nat_Factorial_5]
    by_cases hi : i + 1 ≤ n
    · have o1 := ok_fac (n := i) (by omega)
      have o2 := ok_fac (n := i + 1) (by omega)
      have o3 := ok_small (n := i + 1) (by omega)
      have hm : fac i * (i + 1) = fac (i + 1) := by rw [fac, Nat.mul_comm]
      unfold f_nat_N_Digits
      rw [if_pos (by simp only [decide_eq_true_eq]; omega), of_ok (by omega), Option.bind_some, mul_ok (ok_sz o1) (ok_sz o3), Option.bind_some, hm, text_ok _ (sz8 (ok_sz o2)), Option.bind_some, Option.bind_some, txt_size, if_neg (by unfold Ok at o2; simp only [decide_eq_true_eq]; omega),
        w64 _ (by omega) (by omega), show ((i + 1 : Nat) : Int) + 1 = ((i + 1 + 1 : Nat) : Int) by omega, fac_loop n hn m (i + 1) (by omega) (by omega) (by omega), show max (i + 1) n = max i n by omega]
    · rw [if_neg (by simp only [decide_eq_true_eq]; omega), show max i n = i by omega]
theorem factorial_ok {n : Nat} (hn : n ≤ 200) : f_nat_Factorial fuel (n : Int) = some (txt (fac n), 0) := by
  unfold f_nat_Factorial
  have hf := fuel40
  have o1 := ok_fac hn
  have h1 : f_nat_Of fuel 1 = some (zs (cn 1)) := of_ok (n := 1) (by decide)
  have h2 := fac_loop n hn fuel 1 (by omega) (by omega) (by omega)
  have h2 : l_nat_Factorial_5 fuel (n : Int) 2 (zs (cn 1)) = _ := h2
  have h3 : fac (max 1 n) = fac n := by
    cases n with
    | zero => rfl
    | succ n => rw [show max 1 (n + 1) = n + 1 by omega]
  rw [if_pos (by simp), if_neg (by simp only [decide_eq_true_eq]; omega), h1, Option.bind_some, h2]
  simp only [h3]
  rw [told_ok (sz8 (ok_sz o1)) o1, Option.bind_some]

theorem bin_loop (n k : Nat) (hn : n ≤ 200) (hk : k ≤ n) : ∀ (m i : Nat), i ≤ min k (n - k) → n + 1 < m + i → l_nat_Binomial_5 m (n : Int) (k : Int) (zs (cn (ch n i))) ((i + 1 : Nat) : Int) = some (.exit (zs (cn (ch n (min k (n - k)))), ()))
  | 0, i, h1, h2 => by omega
  | m + 1, i, h1, h2 => by
    simp only [l_nat_Binomial_5]
    have e1 : IntKind.i64.wrap ((n : Int) - (k : Int)) = ((n - k : Nat) : Int) := by rw [w64 _ (by omega) (by omega)]; omega
    have e2 : (if ((n - k : Nat) : Int) < (k : Int) then ((n - k : Nat) : Int) else (k : Int)) = ((min k (n - k) : Nat) : Int) := by split <;> omega
    rw [e1, e2]
    by_cases hi : i + 1 ≤ min k (n - k)
    · have o1 := ok_ch hn (k := i) (by omega)
      have o2 := ok_small (n := n - i) (by omega)
      have o3 := ok_small (n := i + 1) (by omega)
      have e3 : IntKind.i64.wrap ((IntKind.i64.wrap ((n : Int) - ((i + 1 : Nat) : Int))) + 1) = ((n - i : Nat) : Int) := by rw [w64 ((n : Int) - ((i + 1 : Nat) : Int)) (by omega) (by omega), w64 _ (by omega) (by omega)]; omega
      have e4 : IntKind.i64.wrap (((i + 1 : Nat) : Int) + 1) = ((i + 1 + 1 : Nat) : Int) := by rw [w64 _ (by omega) (by omega)]; omega
      have o4 : Sz (ch n i * (n - i)) := by
        have a1 := dig_mul (ch n i) (n - i)
        have a2 : (dig (n - i)).length ≤ 3 := (dig_length _ 3 (by decide)).2 (by omega)
        unfold Ok at o1
        exact len_of (k := 223) (by omega) (by decide)
      rw [if_pos (by simp only [decide_eq_true_eq]; omega), e3, e4, of_ok (by omega), Option.bind_some, mul_ok (ok_sz o1) (ok_sz o2), Option.bind_some, of_ok (by omega), Option.bind_some, div_ok o4 (ok_sz o3) (by omega), Option.bind_some]
      simp only [ch_step (show i < n by omega)]
      exact bin_loop n k hn hk m (i + 1) hi (by omega)
    · rw [if_neg (by simp only [decide_eq_true_eq]; omega), show i = min k (n - k) by omega]
theorem binomial_ok {n k : Nat} (hn : n ≤ 200) (hk : k ≤ n) : f_nat_Binomial fuel (n : Int) (k : Int) = some (txt (ch n k), 0) := by
  unfold f_nat_Binomial
  have hf := fuel40
  have o1 := ok_ch hn hk
  have h1 : f_nat_Of fuel 1 = some (zs (cn 1)) := of_ok (n := 1) (by decide)
  have h2 := bin_loop n k hn hk fuel 0 (by omega) (by omega)
  rw [ch_zero] at h2
  have h2 : l_nat_Binomial_5 fuel (n : Int) (k : Int) (zs (cn 1)) 1 = _ := h2
  have h3 : ch n (min k (n - k)) = ch n k := by
    rcases Nat.le_total k (n - k) with h | h
    · rw [Nat.min_eq_left h]
    · rw [Nat.min_eq_right h, ch_sym hk]
  rw [if_pos (by simp), if_pos (by simp only [decide_eq_false_iff_not]; omega), if_pos (by simp), if_neg (by simp only [decide_eq_true_eq]; omega), h1, Option.bind_some, h2]
  simp only [h3]
  rw [told_ok (sz8 (ok_sz o1)) o1, Option.bind_some]

theorem pick_ok (a : Int) {n : Nat} (h0 : 0 < n) (h : n ≤ 1000000) : ∃ r : Nat, r < n ∧ f_gamehallkeep2_pick fuel a (n : Int) = some (r : Int) := by
  unfold f_gamehallkeep2_pick
  have hw : 0 ≤ IntKind.u64.wrap a := by simp [IntKind.wrap, IntKind.bits, IntKind.signed]; omega
  obtain ⟨x, hx⟩ := Int.eq_ofNat_of_zero_le hw
  refine ⟨x % n, Nat.mod_lt _ h0, ?_⟩
  rw [u64n (by omega), if_neg (by omega), hx, tmodN, i64n (by have := Nat.mod_lt x h0; omega)]

theorem pascal_true (a b : Int) : f_gamehallkeep2_NatPascal fuel a b = some true := by
  unfold f_gamehallkeep2_NatPascal
  obtain ⟨n, hn, e⟩ := pick_ok a (n := 200) (by decide) (by decide)
  have e : f_gamehallkeep2_pick fuel a 200 = some (n : Int) := e
  have w1 : IntKind.i64.wrap (1 + (n : Int)) = ((n + 1 : Nat) : Int) := by rw [w64 _ (by omega) (by omega)]; omega
  obtain ⟨k, hk, e'⟩ := pick_ok b (n := n + 1) (by omega) (by omega)
  have w2 : IntKind.i64.wrap (1 + (k : Int)) = ((k + 1 : Nat) : Int) := by rw [w64 _ (by omega) (by omega)]; omega
  have w3 : IntKind.i64.wrap (((n + 1 : Nat) : Int) - 1) = (n : Int) := by rw [w64 _ (by omega) (by omega)]; omega
  have w4 : IntKind.i64.wrap (((k + 1 : Nat) : Int) - 1) = (k : Int) := by rw [w64 _ (by omega) (by omega)]; omega
  have w5 : IntKind.i64.wrap (((n + 1 : Nat) : Int) - ((k + 1 : Nat) : Int)) = ((n - k : Nat) : Int) := by rw [w64 _ (by omega) (by omega)]; omega
  have o1 := ok_ch (n := n + 1) (k := k + 1) (by omega) (by omega)
  have o2 := ok_ch (n := n) (k := k) (by omega) (by omega)
  have f1 := ok_fac (n := n + 1) (by omega)
  have f2 := ok_fac (n := k + 1) (by omega)
  have f3 := ok_fac (n := n - k) (by omega)
  have hc := ch_fac (n := n + 1) (k := k + 1) (by omega)
  rw [show n + 1 - (k + 1) = n - k by omega] at hc
  have hp : 0 < fac (k + 1) * fac (n - k) := Nat.mul_pos (fac_pos _) (fac_pos _)
  have o3 : Ok (fac (k + 1) * fac (n - k)) := ok_le (by rw [← hc]; exact Nat.le_mul_of_pos_left _ (by
    apply Nat.pos_of_ne_zero
    intro h
    rw [h, Nat.zero_mul] at hc
    have := fac_pos (n + 1)
    omega)) f1
  have hq : fac (n + 1) / (fac (k + 1) * fac (n - k)) = ch (n + 1) (k + 1) := by rw [← hc, Nat.mul_div_cancel _ hp]
  have hr : fac (n + 1) % (fac (k + 1) * fac (n - k)) = 0 := by rw [← hc, Nat.mul_mod_left]
  have hf : f_gamehallkeep2_fine fuel [0, 0, 0, 0, 0, 0, 0, 0, 0] = some true := by kernel_rfl
  rw [fact_true, Option.bind_some, if_neg (by decide), e, Option.bind_some, w1, e', Option.bind_some, w2, w3, w4, w5, binomial_ok (by omega) (by omega), Option.bind_some, binomial_ok (by omega) (by omega), Option.bind_some, factorial_ok (by omega), factorial_ok (by omega), factorial_ok (by omega)]
  by_cases hkn : k + 1 < n + 1
  · have o4 := ok_ch (n := n) (k := k + 1) (by omega) (by omega)
    have hs : ch n k + ch n (k + 1) = ch (n + 1) (k + 1) := rfl
    rw [if_pos (by simp only [decide_eq_true_eq]; omega), binomial_ok (by omega) (by omega), Option.bind_some, nat_add o2 o4 (hs ▸ o1)]
    simp only [Option.bind_some]
    rw [nat_mul f2 f3 o3, Option.bind_some, nat_divide f1 o3 hp, Option.bind_some]
    simp only [hf, Option.bind_some, hs, hq, hr, txt_eq, txt_zero, decide_true, if_true]
  · obtain rfl : k = n := by omega
    have hs : ch k k + 0 = ch (k + 1) (k + 1) := by rw [ch_self, ch_self]
    rw [if_neg (by simp only [decide_eq_true_eq]; omega), txt_zero, nat_add o2 (ok_small (by decide)) (hs ▸ o1)]
    simp only [Option.bind_some]
    rw [nat_mul f2 f3 o3, Option.bind_some, nat_divide f1 o3 hp, Option.bind_some]
    simp only [hf, Option.bind_some, hs, hq, hr, txt_eq, decide_true, if_true]
theorem natPascal_plain : ∀ x : Int × Int, WfL [.int .i64, .int .i64] x → f_gamehallkeep2_NatPascal fuel x.1 x.2 = some true := fun x _ => pascal_true x.1 x.2
end Go.Proofs.YtkdikllfbklhcaaDoor
