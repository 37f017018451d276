/- What the functions on texts of rational numbers compute: In, Out, Fits, Check. -/
import Derived.Test.YtcdcoeofhnfjdaaDoorRa
namespace Go.Proofs.YtcdcoeofhnfjdaaDoor
open Go Vm
theorem yz4 (r : List Nat) (h : By r) (hs : r.length ≤ 1000000000000000) : z2m fuel (sb (45 :: r)) (⟨#[45]⟩ : ByteArray) = some (sb r, true) := by
 have e45 : (⟨#[45]⟩ : ByteArray) = sb [45] := rfl
 have hb : By (45 :: r) := fun c hc => by
  rcases List.mem_cons.1 hc with rfl | hc
  ·decide
  ·exact h c hc
 have hb1 : By [45] := fun c hc => by rw [List.mem_singleton] at hc; omega
 have s1 : ((sb [45]).size : Int) = 1 := rfl
 have s2 : ((sb (45 :: r)).size : Int) = (r.length : Int) + 1 := by rw [z45]; rfl
 unfold z2m z4r z4s
 rw [e45]
 simp only [s1, s2]
 rw [if_pos (by simp only [decide_eq_true_eq]; omega), if_pos (by omega), if_pos (by omega), zb6, show ((45 :: r).take (1 : Int).toNat).drop 0 = [45] from rfl, w2j hb1 hb1, Option.bind_some, if_neg (by decide), if_pos (by omega), if_pos (by omega), zb6, z45, List.take_length]
 rfl
theorem w3p (l : List Nat) (h : By l) (h0 : l.head? ≠ some 45) (hs : l.length ≤ 1000000000000000) : z2m fuel (sb l) (⟨#[45]⟩ : ByteArray) = some (sb l, false) := by
 have e45 : (⟨#[45]⟩ : ByteArray) = sb [45] := rfl
 have hb1 : By [45] := fun c hc => by rw [List.mem_singleton] at hc; omega
 have s1 : ((sb [45]).size : Int) = 1 := rfl
 unfold z2m z4r z4s
 rw [e45]
 simp only [s1]
 simp only [z45]
 cases l with
 | nil =>
  rw [if_neg (by decide), Option.bind_some, if_pos (by rfl), Option.bind_some]
 | cons c r =>
  have hc : By [c] := fun d hd => by rw [List.mem_singleton] at hd; subst hd; exact h d (List.mem_cons_self ..)
  have hl : ((c :: r).length : Int) = (r.length : Int) + 1 := rfl
  rw [hl, if_pos (by simp only [decide_eq_true_eq]; omega), if_pos (by omega), if_pos (by omega), zb6, show ((c :: r).take (1 : Int).toNat).drop 0 = [c] from rfl, w2j hc hb1, Option.bind_some, if_pos, Option.bind_some]
  have : c ≠ 45 := fun e => h0 (by rw [e]; rfl)
  simp [this]
theorem w0d : ∀ (p r : List Nat), By p → 47 ∉ p → Lib.indexByte ((p ++ 47 :: r).map UInt8.ofNat) 47 = (p.length : Int)
 | [], r, _, _ => by simp [Lib.indexByte]
 | c :: p, r, hb, h => by
  have hc : c < 256 := hb c (List.mem_cons_self ..)
  have hne : (UInt8.ofNat c == 47) = false := by
   have : UInt8.ofNat c ≠ 47 := fun e => by
    have h3 := congrArg UInt8.toNat e
    have h4 : (UInt8.ofNat c).toNat = c := UInt8.toNat_ofNat_of_lt hc
    have h5 : UInt8.toNat 47 = 47 := rfl
    have h6 : c = 47 := by omega
    exact h (by rw [h6]; exact List.mem_cons_self ..)
   simpa using this
  have ih := w0d p r (fun d hd => hb d (List.mem_cons_of_mem _ hd)) fun hm => h (List.mem_cons_of_mem _ hm)
  have h2 : ((p.length : Int) == -1) = false := by simp
  simp only [List.cons_append, List.map_cons, Lib.indexByte, hne, Bool.false_eq_true, if_false, ih, h2]
  simp
theorem w0e : ∀ (p : List Nat), By p → 47 ∉ p → Lib.indexByte (p.map UInt8.ofNat) 47 = -1
 | [], _, _ => rfl
 | c :: p, hb, h => by
  have hc : c < 256 := hb c (List.mem_cons_self ..)
  have hne : (UInt8.ofNat c == 47) = false := by
   have : UInt8.ofNat c ≠ 47 := fun e => by
    have h3 := congrArg UInt8.toNat e
    have h4 : (UInt8.ofNat c).toNat = c := UInt8.toNat_ofNat_of_lt hc
    have h5 : UInt8.toNat 47 = 47 := rfl
    have h6 : c = 47 := by omega
    exact h (by rw [h6]; exact List.mem_cons_self ..)
   simpa using this
  have ih := w0e p (fun d hd => hb d (List.mem_cons_of_mem _ hd)) fun hm => h (List.mem_cons_of_mem _ hm)
  simp only [List.map_cons, Lib.indexByte, hne, Bool.false_eq_true, if_false, ih]
  rfl
theorem ym0 (l : List Nat) : Vm.stdIndex (sb l) (⟨#[47]⟩ : ByteArray) = some (Lib.indexByte (l.map UInt8.ofNat) 47) := by
 unfold Vm.stdIndex
 have : (sb l).data.toList = l.map UInt8.ofNat := by simp [sb]
 rw [if_pos (by decide), this]
 rfl
theorem w3o (p r : List Nat) (hp : By p) (h : 47 ∉ p) (hs : p.length + r.length ≤ 1000000000000000) : z5e fuel (sb (p ++ 47 :: r)) (⟨#[47]⟩ : ByteArray) = some (sb p, sb r, true) := by
 unfold z5e z7e
 have s1 : (((⟨#[47]⟩ : ByteArray).size : Nat) : Int) = 1 := rfl
 have s2 : ((sb (p ++ 47 :: r)).size : Int) = ((p.length + r.length + 1 : Nat) : Int) := by rw [z45, List.length_append, List.length_cons]; omega
 have w1 : IntKind.i64.wrap ((p.length : Int) + 1) = ((p.length + 1 : Nat) : Int) := by rw [w64 _ (by omega) (by omega)]; omega
 rw [ym0, w0d p r hp h, Option.bind_some]
 simp only [s1, s2, w1]
 rw [if_pos (by simp), if_pos (by omega), if_pos (by omega), if_pos (by omega), if_pos (by omega), zb6, zb6, Int.toNat_natCast, Int.toNat_natCast, Option.bind_some, List.drop_zero, List.take_left, z45, List.take_length]
 congr 3
 rw [List.drop_append, List.drop_of_length_le (by omega), List.nil_append, show p.length + 1 - p.length = 1 by omega]
 rfl
theorem w80 (p : List Nat) (hp : By p) (h : 47 ∉ p) : z5e fuel (sb p) (⟨#[47]⟩ : ByteArray) = some (sb p, (⟨#[]⟩ : ByteArray), false) := by
 unfold z5e z7e
 rw [ym0, w0e p hp h, Option.bind_some, if_neg (by decide), Option.bind_some]
theorem no47 (n : Nat) : 47 ∉ dt n := fun h => by have := we7 h; omega
theorem y4m (r : Rat) (hs : (rtb r).length ≤ 1000000000) : ∃ rest, z2m fuel (rt r) (⟨#[45]⟩ : ByteArray) = some (sb rest, decide (r.num < 0)) ∧
  z5e fuel (sb rest) (⟨#[47]⟩ : ByteArray) = some (txt r.num.natAbs, (if r.den = 1 then (⟨#[]⟩ : ByteArray) else txt r.den), !decide (r.den = 1)) := by
 have hb := wd2 r
 refine ⟨dt r.num.natAbs ++ (if r.den = 1 then [] else 47 :: dt r.den), ?_, ?_⟩
 ·unfold rt
  by_cases h : r.num < 0
  ·have e : rtb r = 45 :: (dt r.num.natAbs ++ (if r.den = 1 then [] else 47 :: dt r.den)) := by unfold rtb; rw [if_pos h]; rfl
   rw [e] at hb hs ⊢
   rw [yz4 _ (fun c hc => hb c (List.mem_cons_of_mem _ hc)) (by simp only [List.length_cons] at hs; omega), show decide (r.num < 0) = true by simpa using h]
  ·have e : rtb r = dt r.num.natAbs ++ (if r.den = 1 then [] else 47 :: dt r.den) := by unfold rtb; rw [if_neg h]; rfl
   rw [e] at hb hs ⊢
   rw [w3p _ hb ?_ (by omega), show decide (r.num < 0) = false by simpa using h]
   cases hd : dt r.num.natAbs with
   | nil => exact absurd hd (we6 _)
   | cons c l =>
    intro e
    have := we7 (n := r.num.natAbs) (c := c) (by rw [hd]; exact List.mem_cons_self ..)
    simp only [List.cons_append, List.head?_cons, Option.some.injEq] at e
    omega
 ·have hl : (dt r.num.natAbs).length + (if r.den = 1 then ([] : List Nat) else 47 :: dt r.den).length ≤ 1000000000 := by
   unfold rtb at hs
   simp only [List.length_append] at hs
   omega
  by_cases h : r.den = 1
  ·rw [if_pos h, if_pos h, List.append_nil, w80 _ (y88 _) (no47 _), show decide (r.den = 1) = true by simpa using h]
   rfl
  ·rw [if_neg h, if_neg h]
   rw [if_neg h] at hl
   simp only [List.length_cons] at hl
   rw [w3o _ _ (y88 _) (no47 _) (by omega), show decide (r.den = 1) = false by simpa using h]
   rfl
def OkR (r : Rat) : Prop := Ok r.num.natAbs ∧ Ok r.den
instance (r : Rat) : Decidable (OkR r) := inferInstanceAs (Decidable (Ok r.num.natAbs ∧ Ok r.den))
theorem yw0 {r : Rat} (h : OkR r) : (rtb r).length ≤ 4002 := by
 unfold rtb
 have h1 := h.1; have h2 := h.2
 unfold Ok at h1 h2
 have l1 : (dt r.num.natAbs).length = (dig r.num.natAbs).length := by rw [dt, List.length_map]
 have l2 : (dt r.den).length = (dig r.den).length := by rw [dt, List.length_map]
 simp only [List.length_append]
 have a1 : (if r.num < 0 then [45] else ([] : List Nat)).length ≤ 1 := by split <;> simp
 have a2 : (if r.den = 1 then ([] : List Nat) else 47 :: dt r.den).length ≤ 2001 := by
  split
  ·simp
  ·simp only [List.length_cons]; omega
 omega
theorem w0r {r : Rat} (h : OkR r) : Dr 2000 r := ⟨(z44 _ 2000 (by decide)).1 h.1, (z44 _ 2000 (by decide)).1 h.2⟩
theorem yl3 {r : Rat} {k : Nat} (h : Dr k r) (h1 : 1 ≤ k) (hk : k ≤ 2000) : OkR r := ⟨w7f h.1 h1 hk, w7f h.2 h1 hk⟩
theorem wf5 {r : Rat} (h : OkR r) : ∃ q, zm7 fuel (rt r) = some q ∧ QR r q := by
 unfold zm7
 obtain ⟨rest, e1, e2⟩ := y4m r (by have := yw0 h; omega)
 rw [e1, Option.bind_some, e2, Option.bind_some, y19 h.1, Option.bind_some, of_one, Option.bind_some]
 by_cases hd : r.den = 1
 ·rw [if_neg (by simp [hd])]
  refine ⟨_, rfl, rfl, rfl, .inl ?_⟩
  rw [hd]
 ·rw [if_pos (by simp [hd])]
  simp only [if_neg hd]
  rw [y19 h.2, Option.bind_some]
  exact ⟨_, rfl, rfl, rfl, .inl rfl⟩
theorem yh9 : (⟨#[49]⟩ : ByteArray) = txt 1 := by
 have : dt 1 = [49] := by
  unfold dt dig
  rw [if_neg (by decide), y2r (by decide), show 1 / 10 = 0 from rfl, zh2]; rfl
 unfold txt
 rw [this]
 rfl
theorem w5a {r : Rat} {q : Qd} {k : Nat} (h : QR r q) (hr : Dr k r) (hk : k ≤ 4194304) : z8j fuel q = some (rt r) := by
 unfold z8j
 by_cases h0 : r = 0
 ·rw [if_pos (y0s h h0), h0, y1c]
  exact congrArg some (wg2 0).symm
 rw [if_neg (by rw [zv3 h h0]; simp)]
 have z1 := ze7 hr.1 (by omega)
 have z2 := ze7 hr.2 (by omega)
 have l1 : (dt r.num.natAbs).length ≤ 4194304 := by
  rw [dt, List.length_map]
  by_cases hk0 : k = 0
  ·have := hr.2; rw [hk0] at this; have := r.den_nz; simp at *; omega
  ·exact Nat.le_trans ((z44 _ k (by omega)).2 hr.1) hk
 have l2 : (dt r.den).length ≤ 4194304 := by
  rw [dt, List.length_map]
  by_cases hk0 : k = 0
  ·have := hr.2; rw [hk0] at this; have := r.den_nz; simp at *; omega
  ·exact Nat.le_trans ((z44 _ k (by omega)).2 hr.2) hk
 have e45 : (⟨#[45]⟩ : ByteArray) = sb [45] := rfl
 have e47 : (⟨#[47]⟩ : ByteArray) = sb [47] := rfl
 have t1 : txt r.num.natAbs = sb (dt r.num.natAbs) := rfl
 have t2 : txt r.den = sb (dt r.den) := rfl
 rw [h.2.1, yh6 _ (sz8 z1), Option.bind_some, yh9, h.1, e45, e47]
 unfold rt rtb
 by_cases hn : r.num < 0
 ·rw [if_pos (by simpa using hn), if_pos hn, if_pos (by rw [t1, z45, z45]; simp only [List.length_cons, List.length_nil]; omega), zn9 h, Option.bind_some, yh6 _ (sz8 z2), Option.bind_some, y2h]
  by_cases hd : r.den = 1
  ·rw [if_neg (by simp [hd]), if_pos hd, t1, zs2, List.append_nil]
  ·rw [if_pos (by simp [hd]), if_neg hd, if_pos (by rw [t2, z45, z45]; simp only [List.length_cons, List.length_nil]; omega), t1, t2, zs2, zs2, if_pos (by rw [z45, z45]; simp only [List.length_cons, List.length_nil, List.length_append]; omega), zs2, List.append_assoc]
   rfl
 ·rw [if_neg (by simpa using hn), if_neg hn, zn9 h, Option.bind_some, yh6 _ (sz8 z2), Option.bind_some, y2h]
  by_cases hd : r.den = 1
  ·rw [if_neg (by simp [hd]), if_pos hd, t1, List.append_nil, List.nil_append]
  ·rw [if_pos (by simp [hd]), if_neg hd, if_pos (by rw [t2, z45, z45]; simp only [List.length_cons, List.length_nil]; omega), t1, t2, zs2, if_pos (by rw [z45, z45]; simp only [List.length_cons, List.length_nil, List.length_append]; omega), zs2, List.nil_append]
   rfl
theorem y8i {n : Nat} (h : (cn n).length ≤ 8388608) : z6f fuel (zs (cn n)) = some ((dig n).length : Int) := by
 unfold z6f
 rw [yh6 n h, Option.bind_some, w1d]
theorem yg0 {r : Rat} {q : Qd} {k : Nat} (h : QR r q) (hr : Dr k r) (hk : k ≤ 4194304) : zh7 fuel q = some (if OkR r then 0 else 2) := by
 unfold zh7
 have z1 := ze7 hr.1 (by omega)
 have z2 := ze7 hr.2 (by omega)
 rw [h.2.1, y8i (sz8 z1), Option.bind_some]
 by_cases h1 : Ok r.num.natAbs
 ·have h1' := h1
  unfold Ok at h1'
  rw [if_pos (by simp only [decide_eq_false_iff_not]; omega)]
  rcases h.2.2 with e | ⟨h0, e⟩
  ·rw [e, y8i (sz8 z2), Option.bind_some]
   by_cases h2 : Ok r.den
   ·have h2' := h2
    unfold Ok at h2'
    rw [if_neg (by simp only [decide_eq_true_eq]; omega), if_pos ⟨h1, h2⟩]
   ·have h2' := h2
    unfold Ok at h2'
    rw [if_pos (by simp only [decide_eq_true_eq]; omega), if_neg (fun x => h2 x.2)]
  ·have hd : z6f fuel q.2.2 = some 1 := by
    have := y8i (n := 0) (by rw [z4p]; decide)
    rw [e, ← show zs (cn 0) = ([] : List Int) by rw [z4p]; rfl, this]
    rfl
   rw [hd, Option.bind_some, if_neg (by decide), if_pos ⟨h1, by rw [h0]; exact w7f (k := 1) (by decide) (by decide) (by decide)⟩]
 ·have h1' := h1
  unfold Ok at h1'
  rw [if_neg (by simp only [decide_eq_false_iff_not]; omega), if_neg (fun x => h1 x.1)]
end Go.Proofs.YtcdcoeofhnfjdaaDoor
