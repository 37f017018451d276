/- What best computes: no strategy gets more, and its own gets it. -/
import Derived.Test.YtbcooccafbccdaaGreatDoorWg
namespace Go.Proofs.YtbcooccafbccdaaGreatDoor
open Go Vm
def VW (bs : List Bk) (W : Nat → Rat) : Prop := ∀ pre q post, bs = pre ++ q :: post → (∀ c, c < q.2.1 → 0 ≤ W (tot pre + 1 + c)) ∧ fs (fun c => W (tot pre + 1 + c)) q.2.1 = W q.2.2
def Conc (bs post : List Bk) (g : Int → Option Nat) (W : Nat → Rat) : Prop := ∀ pre' q post', bs = pre' ++ q :: post' → q ∈ post → ∀ c, c < q.2.1 → g q.1 ≠ some c → W (tot pre' + 1 + c) = 0
structure BI (bs pre post : List Bk) (N D B0 : Nat) (val v : Nat → Rat) (g : Int → Option Nat) : Prop where
 num : ∀ j, j < N → Num D (2 ^ post.length * B0) (v j)
 tops : ∀ q, q ∈ post → ∃ c, g q.1 = some c ∧ c < q.2.1
 up : ∀ W, VW bs W → fs (fun k => W k * val k) N ≤ fs (fun k => W k * v k) (tot pre + 1)
 eq : ∀ W, VW bs W → Conc bs post g W → fs (fun k => W k * val k) N = fs (fun k => W k * v k) (tot pre + 1)
theorem step_sum {W v : Nat → Rat} {T w b c : Nat} (hb : b < T) (hW : fs (fun c => W (T + c)) w = W b) :
  fs (fun k => W k * if k = b then v k + v (T + c) else v k) T = fs (fun k => W k * v k) T + fs (fun c => W (T + c)) w * v (T + c) := by
 have e : ∀ k, (W k * if k = b then v k + v (T + c) else v k) = W k * v k + (if k = b then W k * v (T + c) else 0) := fun k => by
  by_cases h : k = b
  ·rw [if_pos h, if_pos h]; grind
  ·rw [if_neg h, if_neg h]; grind
 rw [fs_ext fun k _ => e k, fs_add, fs_single (fun k => W k * v (T + c)) b T, if_pos hb, hW]
theorem bi_step {bs pre post : List Bk} {q : Bk} (hbs : bs = pre ++ q :: post) (hnd : (bs.map (·.1)).Nodup) (hbef : BefOk 1 bs) {N D B0 : Nat} (hD : D ≠ 0) {val v : Nat → Rat} {g : Int → Option Nat} (h : BI bs (pre ++ [q]) post N D B0 val v g) (hN : tot pre + 1 + q.2.1 ≤ N) {c : Nat} (hc : c < q.2.1)
  (hmax : ∀ j, tot pre + 1 ≤ j → j < tot pre + 1 + q.2.1 → v j ≤ v (tot pre + 1 + c)) : BI bs pre (q :: post) N D B0 val (fun j => if j = q.2.2 then v j + v (tot pre + 1 + c) else v j) (gset g q.1 c) := by
 have hq1 : q.1 ∉ post.map (·.1) := by
  rw [hbs, List.map_append, List.map_cons, List.nodup_append] at hnd
  exact (List.nodup_cons.1 hnd.2.1).1
 have hb : q.2.2 < tot pre + 1 := by
  have := befOk_at (pre := pre) (n := 1) (q := q) (post := post) (by rw [← hbs]; exact hbef)
  omega
 have hT : tot (pre ++ [q]) + 1 = tot pre + 1 + q.2.1 := by rw [tot_append, tot_cons, tot_nil]; omega
 have hpow : 2 ^ (q :: post).length * B0 = 2 ^ post.length * B0 + 2 ^ post.length * B0 := by
  rw [List.length_cons, Nat.pow_succ]
  generalize 2 ^ post.length = z
  rw [Nat.mul_comm z 2, Nat.mul_assoc]; omega
 refine ⟨fun j hj => ?_, fun q' hq' => ?_, fun W hW => ?_, fun W hW hcon => ?_⟩
 ·rw [hpow]
  obtain ⟨a1, a2⟩ := h.num j hj
  obtain ⟨b1, b2⟩ := h.num (tot pre + 1 + c) (by omega)
  split
  ·exact ⟨a1.add hD b1, a2.add b2⟩
  ·exact ⟨a1, a2.mono (by omega)⟩
 ·unfold gset
  rcases List.mem_cons.1 hq' with rfl | hq'
  ·exact ⟨c, if_pos rfl, hc⟩
  ·have : q'.1 ≠ q.1 := fun e => hq1 (by rw [← e]; exact List.mem_map_of_mem hq')
   rw [if_neg this]
   exact h.tops q' hq'
 ·obtain ⟨w1, w2⟩ := hW pre q post hbs
  rw [step_sum hb w2]
  refine Rat.le_trans (h.up W hW) ?_
  rw [hT, fs_split]
  have e : fs (fun c' => W (tot pre + 1 + c') * v (tot pre + 1 + c')) q.2.1 ≤ fs (fun c' => W (tot pre + 1 + c') * v (tot pre + 1 + c)) q.2.1 :=
   fs_le fun c' hc' => Rat.mul_le_mul_of_nonneg_left (hmax _ (by omega) (by omega)) (w1 c' hc')
  rw [fs_mul] at e
  grind
 ·obtain ⟨w1, w2⟩ := hW pre q post hbs
  rw [step_sum hb w2]
  have hcon0 : Conc bs post g W := fun pre' q' post' e hq' c' hc' hg => hcon pre' q' post' e (List.mem_cons_of_mem _ hq') c' hc' (by
    have : q'.1 ≠ q.1 := fun e => hq1 (by rw [← e]; exact List.mem_map_of_mem hq')
    unfold gset
    rw [if_neg this]; exact hg)
  rw [h.eq W hW hcon0, hT, fs_split]
  have e : fs (fun c' => W (tot pre + 1 + c') * v (tot pre + 1 + c')) q.2.1 = fs (fun c' => W (tot pre + 1 + c') * v (tot pre + 1 + c)) q.2.1 :=
   fs_ext fun c' hc' => by
    by_cases ec : c' = c
    ·rw [ec]
    ·have h0 := hcon pre q post hbs (List.mem_cons_self ..) c' hc' (by
       unfold gset
       rw [if_pos rfl]
       exact fun e => ec (Option.some.inj e).symm)
     rw [h0, Rat.zero_mul, Rat.zero_mul]
  rw [e, fs_mul]
theorem best_loop {t : List Nd} {p : Int} (hw : ∀ r, r ∈ sets t p 10 → r.2 ≤ 6) {bs : List Bk} (hnd : (bs.map (·.1)).Nodup) (hbef : BefOk 1 bs) (hwb : ∀ q, q ∈ bs → 0 < q.2.1 ∧ q.2.1 ≤ 6) {N D e B0 : Nat} (hN : N = tot bs + 1) (hN2 : N ≤ 1000) (hD : D ≠ 0) (he : e ≤ 960) (hD2 : D ≤ 10 ^ e) (hB : 1 ≤ B0) (hB2 : B0 ≤ 10 ^ 15) (hbl : bs.length ≤ 10) {val : Nat → Rat} :
  ∀ (k m : Nat) (pre post : List Bk) (v : Nat → Rat) (g : Int → Option Nat) (vs : List Qd), pre.length = k → bs = pre ++ post → 1100 + k < m → QF N v vs → BI bs pre post N D B0 val v g →
  ∃ v' g' vs', l_reply_best_18 m ((tot pre + 1 : Nat) : Int) (sqs bs) vs ((sets t p 10).map (·.1)) (zs ((sets t p 10).map (·.2))) ((sets t p 10).map (og g)) = some (.exit (vs', (sets t p 10).map (og g'), sqs bs, (sets t p 10).map (·.1), zs ((sets t p 10).map (·.2)), ())) ∧
   QF N v' vs' ∧ BI bs [] bs N D B0 val v' g' := by
 intro k
 induction k with
 | zero =>
  intro m pre post v g vs hk hbs hm hq h
  have hpre : pre = [] := List.eq_nil_of_length_eq_zero hk
  subst hpre
  have hbs : bs = post := hbs
  obtain ⟨m, rfl⟩ : ∃ m', m = m' + 1 := ⟨m - 1, by omega⟩
  simp only [l_reply_best_18]
  rw [if_neg (by rw [decide_eq_true_eq, tot_nil]; omega)]
  exact ⟨v, g, vs, rfl, hq, by rw [← hbs] at h; exact h⟩
 | succ k ih =>
  intro m pre0 post v g vs hk hbs hm hq h
  obtain ⟨pre, q, rfl⟩ : ∃ pre q, pre0 = pre ++ [q] := by
   rcases List.eq_nil_or_concat pre0 with e | ⟨pre, q, e⟩
   ·rw [e] at hk; simp at hk
   ·exact ⟨pre, q, by rw [e, List.concat_eq_append]⟩
  have hbs' : bs = pre ++ q :: post := by rw [hbs, List.append_assoc]; rfl
  obtain ⟨hq0, hq6⟩ := hwb q (by rw [hbs']; simp)
  have htot : tot bs = tot pre + (q.2.1 + tot post) := by rw [hbs', tot_append, tot_cons]
  have hT : tot (pre ++ [q]) + 1 = tot pre + 1 + q.2.1 := by rw [tot_append, tot_cons, tot_nil]; omega
  have hb : q.2.2 < tot pre + 1 := by
   have := befOk_at (pre := pre) (n := 1) (q := q) (post := post) (by rw [← hbs']; exact hbef)
   omega
  have hvl := hq.1
  have hpl : post.length ≤ 10 := by rw [hbs', List.length_append, List.length_cons] at hbl; omega
  have hBb : 2 ^ post.length * B0 < 10 ^ 40 := by
   have h1 : 2 ^ post.length ≤ 2 ^ 10 := Nat.pow_le_pow_right (by decide) hpl
   have h2 : 2 ^ post.length * B0 ≤ 2 ^ 10 * 10 ^ 15 := Nat.mul_le_mul h1 hB2
   exact Nat.lt_of_le_of_lt h2 (by decide)
  have hB1 : 1 ≤ 2 ^ post.length * B0 := Nat.mul_pos (Nat.pow_pos (by decide)) hB
  have hdr : ∀ j, j < N → Dr 1000 (v j) := fun j hj => (h.num j hj).dr hD he hD2 hB1 hBb
  obtain ⟨m, rfl⟩ : ∃ m', m = m' + 1 := ⟨m - 1, by omega⟩
  simp only [l_reply_best_18]
  rw [hT, if_pos (by rw [decide_eq_true_eq]; omega)]
  have f1 := first_loop pre post q (by rw [← hbs']; omega) (q.2.1 - 1) m (by omega) (by omega)
  rw [← hbs'] at f1
  rw [w64 _ (by omega) (by omega), show ((tot pre + 1 + q.2.1 : Nat) : Int) - 1 = ((tot pre + 1 + (q.2.1 - 1) : Nat) : Int) by omega, f1]
  simp only
  obtain ⟨top, t1, t2, t3, t4⟩ := top_loop hq hdr hN2 (tot pre + 1) (tot pre + 1 + q.2.1) (by omega) m (tot pre + 1) (tot pre + 1) (by omega) (by omega) (by omega) (by omega) (by omega) (fun j g1 g2 => by omega)
  rw [t4]
  simp only
  obtain ⟨c, rfl⟩ : ∃ c, top = tot pre + 1 + c := ⟨top - (tot pre + 1), by omega⟩
  have hat := sqs_at pre post q 0 hq0
  rw [Nat.add_zero, ← hbs'] at hat
  have hsl := sqs_length bs
  have hfl : ((tot pre + 1 : Nat) : Int) < ((sqs bs).length : Int) := by omega
  rw [if_pos (by omega), if_pos hfl, Int.toNat_natCast, hat]
  simp only
  obtain ⟨x, hx, hqx⟩ := qadd_ok (hq.at (show q.2.2 < N by omega)) (hq.at (show tot pre + 1 + c < N by omega)) (hdr _ (by omega)) (hdr _ (by omega)) (by decide)
  have hb1 : ((q.2.2 : Nat) : Int) < (vs.length : Int) := by omega
  have hc1 : ((tot pre + 1 + c : Nat) : Int) < (vs.length : Int) := by omega
  rw [if_pos (by omega), if_pos hb1, if_pos (by omega), if_pos hc1, Int.toNat_natCast, Int.toNat_natCast, hx, Option.bind_some, if_pos (by omega), if_pos hb1]
  have h10 := sets_length t p 10
  have g1 := infos_loop hw pre post q hq0 (by rw [← hbs']; omega) c (by omega) g m 0 ((sets t p 10).map (og g)) (by omega) (by omega) (by rw [List.length_map]) (fun j hj => by
    rw [if_neg (by omega), getD_eq _ j _ (by rw [List.length_map]; exact hj), List.getElem_map, getD_eq _ j _ hj])
  rw [← hbs'] at g1
  have g1 : l_reply_best_31 m ((tot pre + 1 : Nat) : Int) ((tot pre + 1 + c : Nat) : Int) (((sets t p 10).map (·.1)).length : Int) 0 (sqs bs) (zs ((sets t p 10).map (·.2))) ((sets t p 10).map (og g)) ((sets t p 10).map (·.1)) = some (.exit (sqs bs, zs ((sets t p 10).map (·.2)), (sets t p 10).map (og (gset g q.1 c)), (sets t p 10).map (·.1), ())) := by
   rw [List.length_map]; exact g1
  rw [g1]
  simp only
  have hbi := bi_step hbs' hnd hbef hD h (by omega) (show c < q.2.1 by omega) t3
  refine ih m pre (q :: post) _ (gset g q.1 c) _ (by rw [List.length_append, List.length_singleton] at hk; omega) hbs' (by omega) ((hq.set (show q.2.2 < N by omega) hqx).ext fun j hj => ?_) hbi
  by_cases ej : j = q.2.2
  ·rw [if_pos ej, if_pos ej, ej]
  ·rw [if_neg ej, if_neg ej]
end Go.Proofs.YtbcooccafbccdaaGreatDoor
