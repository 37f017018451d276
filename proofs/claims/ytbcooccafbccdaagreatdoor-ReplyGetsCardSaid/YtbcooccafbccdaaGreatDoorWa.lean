/- How probable each node is. -/
import Derived.Test.YtbcooccafbccdaaGreatDoorTi
import Derived.Test.YtbcooccafbccdaaGreatDoorQf
namespace Go.Proofs.YtbcooccafbccdaaGreatDoor
open Go Vm
def kset {α : Type} : List Int → (Nat → α) → Nat → (Nat → α) → Nat → α
 | [], _, _, f => f
 | k :: L, g, j, f => kset L g (j + 1) (fun y => if y = k.toNat then g j else f y)
theorem kset_ne {α : Type} : ∀ {L : List Int} {g : Nat → α} {j : Nat} {f : Nat → α} {y : Nat}, (∀ k, k ∈ L → k.toNat ≠ y) → kset L g j f y = f y
 | [], _, _, _, _, _ => rfl
 | k :: L, g, j, f, y, h => by
  rw [kset, kset_ne (fun k' hk' => h k' (List.mem_cons_of_mem _ hk')), if_neg (fun e => h k (List.mem_cons_self ..) e.symm)]
theorem kset_at {α : Type} : ∀ {L : List Int} {g : Nat → α} {j : Nat} {f : Nat → α}, L.Nodup → (∀ k, k ∈ L → 0 ≤ k) → ∀ {c : Nat} {k : Int}, L[c]? = some k → kset L g j f k.toNat = g (j + c)
 | [], _, _, _, _, _, _, _, h => by simp at h
 | k0 :: L, g, j, f, hn, h0, 0, k, h => by
  simp only [List.getElem?_cons_zero, Option.some.injEq] at h
  subst h
  rw [kset, kset_ne (fun k' hk' e => (List.nodup_cons.1 hn).1 (by
    have h1 := h0 k' (List.mem_cons_of_mem _ hk')
    have h2 := h0 k0 (List.mem_cons_self ..)
    rwa [show k0 = k' by omega])), if_pos rfl]; rfl
 | k0 :: L, g, j, f, hn, h0, c + 1, k, h => by
  rw [List.getElem?_cons_succ] at h
  rw [kset, kset_at (List.nodup_cons.1 hn).2 (fun k' hk' => h0 k' (List.mem_cons_of_mem _ hk')) h]
  congr 1; omega
structure Edge (ss : List (Option (List Ch))) (x : Nd) (ρ : Nat → Rat) : Prop where
 chance : x.1 = 1 → (od x).length = (nx x).length ∧ ∀ c, c < (nx x).length → (od x).getD c ByteArray.empty = rt (ρ c) ∧ OkR (ρ c)
 play : x.1 ≠ 1 → nx x ≠ [] → 0 ≤ x.2.1 ∧ x.2.1 < 2 ∧ (ss.getD x.2.1.toNat none = none → ∀ c, ρ c = 1) ∧
  ∀ s, ss.getD x.2.1.toNat none = some s → ∀ c : Nat, c < (nx x).length → ∃ z, f_recall_Odd fuel s x.2.2.1 (c : Int) = some z ∧ QR (ρ c) z
 dr : ∀ c, c < (nx x).length → Dr 12 (ρ c)
theorem reach_in (i n : Nat) (hi : i < n) (hn : n ≤ 40) (x : Nd) (hL : (nx x).length ≤ 6) (hk : ∀ k, k ∈ nx x → (i : Int) < k ∧ k < (n : Int)) (ss : List (Option (List Ch))) (ρ : Nat → Rat) (he : Edge ss x ρ) (v : Rat) (hv : Dr (12 * i + 1) v) :
  ∀ (m j : Nat) (f : Nat → Rat) (qs : List Qd), j ≤ (nx x).length → (nx x).length < m + j → f i = v → QF n f qs →
  ∃ qs' d, l_reply_Reach_7 m (i : Int) (nx x) ((nx x).length : Int) (j : Int) ss qs x.1 x.2.1 x.2.2.1 x.2.2.2.1 x.2.2.2.2.1 x.2.2.2.2.2 = some (.exit (ss, qs', d)) ∧ QF n (kset ((nx x).drop j) (fun c => v * ρ c) j f) qs'
 | 0, j, f, qs, h1, h2, _, _ => by omega
 | m + 1, j, f, qs, h1, h2, h3, h4 => by
  have hql := h4.1
  simp only [l_reply_Reach_7]
  by_cases hj : j < (nx x).length
  ·have e4 : IntKind.i64.wrap ((j : Int) + 1) = ((j + 1 : Nat) : Int) := by rw [w64 _ (by omega) (by omega)]; omega
   have hmem : (nx x).getD j 0 ∈ nx x := by rw [getD_eq _ j 0 hj]; exact List.getElem_mem hj
   obtain ⟨k0, k1⟩ := hk _ hmem
   obtain ⟨k, ek⟩ := Int.eq_ofNat_of_zero_le (show 0 ≤ (nx x).getD j 0 by omega)
   have hdr : (nx x).drop j = (nx x).getD j 0 :: (nx x).drop (j + 1) := by rw [List.drop_eq_getElem_cons hj, getD_eq _ j 0 hj]
   rw [hdr, kset]
   simp only [Int.toNat_natCast]
   rw [ek]
   have hki : k ≠ i := by omega
   have hkn : k < n := by omega
   rw [if_pos (by simpa using hj), if_pos (by omega), if_pos (by omega), if_pos (by omega), if_pos (by omega), if_pos (by omega), if_pos (by omega), e4]
   simp only [Int.toNat_natCast, List.length_set]
   have q1 := h4.set hkn (h4.at hi)
   have next : ∀ qs' : List Qd, QF n (fun y => if y = k then v * ρ j else f y) qs' → ∃ qs'' d, l_reply_Reach_7 m (i : Int) (nx x) ((nx x).length : Int) ((j + 1 : Nat) : Int) ss qs' x.1 x.2.1 x.2.2.1 x.2.2.2.1 x.2.2.2.2.1 x.2.2.2.2.2 = some (.exit (ss, qs'', d)) ∧ QF n (kset ((nx x).drop (j + 1)) (fun c => v * ρ c) (j + 1) (fun y => if y = k then v * ρ j else f y)) qs'' := fun qs' h' =>
    reach_in i n hi hn x hL hk ss ρ he v hv m (j + 1) _ qs' (by omega) (by omega) (by rw [if_neg (fun e => hki e.symm)]; exact h3) h'
   have q2 := q1.at hi
   rw [if_neg (fun e => hki e.symm), h3] at q2
   by_cases c1 : x.1 = 1
   ·rw [if_pos (beq_iff_eq.2 c1)]
    obtain ⟨o1, o2⟩ := he.chance c1
    obtain ⟨o3, o4⟩ := o2 j hj
    obtain ⟨z, hz, hqz⟩ := in_ok o4
    rw [if_pos (by omega), if_pos (by omega), if_pos (by omega), if_pos (show (j : Int) < ((od x).length : Int) by omega), show x.2.2.2.2.1.getD j ByteArray.empty = rt (ρ j) from o3, hz, Option.bind_some]
    obtain ⟨y, hy, hqy⟩ := qmul_ok q2 hqz hv (he.dr j hj) (by omega)
    rw [hy, Option.bind_some, if_pos (by omega), if_pos (by omega)]
    exact next _ ((q1.set hkn hqy).ext fun y hy => by
      by_cases e : y = k
      · rw [if_pos e, if_pos e]
      · rw [if_neg e, if_neg e, if_neg e])
   ·rw [if_neg (fun h => c1 (beq_iff_eq.1 h))]
    obtain ⟨p1, p2, p3, p4⟩ := he.play c1 (fun h => by rw [h] at hj; simp at hj)
    rw [if_pos p1, if_pos p2]
    cases hs : ss.getD x.2.1.toNat none with
    | none =>
     rw [if_neg (by simp)]
     exact next _ (q1.ext fun y hy => by
       by_cases e : y = k
       · rw [if_pos e, if_pos e, p3 hs j, Rat.mul_one, h3]
       · rw [if_neg e, if_neg e])
    | some s =>
     obtain ⟨z, hz, hqz⟩ := p4 s hs j hj
     rw [if_pos (by simp), if_pos (by omega), if_pos (by omega), if_pos p1, if_pos p2]
     have hz : f_recall_Odd fuel ((some s).getD []) x.2.2.1 (j : Int) = some z := hz
     rw [hz, Option.bind_some]
     obtain ⟨y, hy, hqy⟩ := qmul_ok q2 hqz hv (he.dr j hj) (by omega)
     rw [hy, Option.bind_some, if_pos (by omega), if_pos (by omega)]
     exact next _ ((q1.set hkn hqy).ext fun y hy => by
       by_cases e : y = k
       · rw [if_pos e, if_pos e]
       · rw [if_neg e, if_neg e, if_neg e])
  ·rw [if_neg (by simpa using hj), List.drop_of_length_le (by omega)]
   exact ⟨qs, _, rfl, h4⟩
structure RR (t : List Nd) (ρ : Nat → Nat → Rat) (i : Nat) (R : Nat → Rat) : Prop where
 root : R 0 = 1
 kid : ∀ j, j < i → ∀ (c : Nat) (k : Int), (nx (nd t j))[c]? = some k → R k.toNat = R j * ρ j c
 dr : ∀ y, y < t.length → Dr (12 * y + 1) (R y)
theorem reach_out {t : List Nd} (hv : V t) (hn : t.length ≤ 40) (ss : List (Option (List Ch))) (ρ : Nat → Nat → Rat) (he : ∀ i, i < t.length → Edge ss (nd t i) (ρ i)) : ∀ (m i : Nat) (f : Nat → Rat) (qs : List Qd), i ≤ t.length → t.length + 10 < m + i →
  QF t.length f qs → RR t ρ i f → ∃ qs' R, l_reply_Reach_4 m t (t.length : Int) (i : Int) ss qs = some (.exit (qs', ss, ())) ∧ QF t.length R qs' ∧ RR t ρ t.length R
 | 0, i, f, qs, h1, h2, _, _ => by omega
 | m + 1, i, f, qs, h1, h2, h3, h4 => by
  simp only [l_reply_Reach_4]
  by_cases hj : i < t.length
  ·have e4 : IntKind.i64.wrap ((i : Int) + 1) = ((i + 1 : Nat) : Int) := by rw [w64 _ (by omega) (by omega)]; omega
   have hg := hv.good i hj
   have hk := good_kids hg
   rw [if_pos (by simpa using hj), if_pos (by omega), if_pos (by omega), Int.toNat_natCast, e4]
   obtain ⟨qs', d, g1, g2⟩ := reach_in i t.length hj hn (nd t i) (good_len hg) hk ss (ρ i) (he i hj) (f i) (h4.dr i hj) m 0 f qs (by omega) (by have := good_len hg; omega) rfl h3
   have g1 : l_reply_Reach_7 m (i : Int) (nd t i).2.2.2.1 ((nd t i).2.2.2.1.length : Int) 0 ss qs (nd t i).1 (nd t i).2.1 (nd t i).2.2.1 (nd t i).2.2.2.1 (nd t i).2.2.2.2.1 (nd t i).2.2.2.2.2 = _ := g1
   rw [g1]
   rw [List.drop_zero] at g2
   have hat : ∀ {c : Nat} {k : Int}, (nx (nd t i))[c]? = some k → kset (nx (nd t i)) (fun c => f i * ρ i c) 0 f k.toNat = f i * ρ i c := fun {c k} h => by
    rw [kset_at (kids_nodup hv hj) (fun k hk' => by have := hk k hk'; omega) h, Nat.zero_add]
   have hle : ∀ y, y ≤ i → kset (nx (nd t i)) (fun c => f i * ρ i c) 0 f y = f y := fun y hy => kset_ne fun k hkm => by have := hk k hkm; omega
   refine reach_out hv hn ss ρ he m (i + 1) _ qs' (by omega) (by omega) g2 ⟨by rw [hle 0 (by omega)]; exact h4.root, fun j hj' c k hck => ?_, fun y hy => ?_⟩
   ·by_cases e : j = i
    ·subst e
     rw [hat hck, hle j (by omega)]
    ·have hjl : j < i := by omega
     have hm : k ∈ nx (nd t j) := List.mem_of_getElem? hck
     have ap := kids_apart hv hjl hj hm
     have hkj := good_kids (hv.good j (by omega)) k hm
     rw [kset_ne (fun k' hk' e => ap (by have := hk k' hk'; rwa [show k = k' by omega])), hle j (by omega)]
     exact h4.kid j hjl c k hck
   ·by_cases e : ∃ k, k ∈ nx (nd t i) ∧ k.toNat = y
    ·obtain ⟨k, hkm, e⟩ := e
     obtain ⟨c, hc⟩ := List.mem_iff_getElem?.1 hkm
     have hcl : c < (nx (nd t i)).length := (List.getElem?_eq_some_iff.1 hc).1
     have := hk k hkm
     rw [← e, hat hc]
     exact dr_mono (by omega) (dr_mul (h4.dr i hj) ((he i hj).dr c hcl))
    ·rw [kset_ne fun k hkm e' => e ⟨k, hkm, e'⟩]
     exact h4.dr y hy
  ·rw [if_neg (by simpa using hj)]
   have : i = t.length := by omega
   subst this
   exact ⟨qs, f, rfl, h3, h4⟩
theorem reach_ok {t : List Nd} (hv : V t) (hn : t.length ≤ 40) (ss : List (Option (List Ch))) (ρ : Nat → Nat → Rat) (he : ∀ i, i < t.length → Edge ss (nd t i) (ρ i)) :
  ∃ qs R, f_reply_Reach fuel t ss = some qs ∧ QF t.length R qs ∧ RR t ρ t.length R := by
 have hf := fuel_ge (n := 2 ^ 100) (by decide)
 have hp := hv.pos
 unfold f_reply_Reach
 rw [if_pos (by omega), if_pos (by omega), if_pos (by omega), int_one, Option.bind_some, Int.toNat_natCast, if_pos (by rw [List.length_replicate]; omega)]
 obtain ⟨qs, R, h1, h2, h3⟩ := reach_out hv hn ss ρ he fuel 0 (fun y => if y = 0 then 1 else 0) ((List.replicate t.length (false, ([], []))).set 0 (false, (zs (cn 1), zs (cn 1)))) (by omega) (by omega)
  ((QF.rep t.length).set hp qr_one) ⟨if_pos rfl, fun j hj => by omega, fun y hy => by
    split
    · exact dr_mono (by omega) dr_one
    · exact dr_zero (by omega)⟩
 have h1 : l_reply_Reach_4 fuel t (t.length : Int) 0 ss ((List.replicate t.length (false, ([], []))).set 0 (false, (zs (cn 1), zs (cn 1)))) = _ := h1
 rw [h1]
 exact ⟨qs, R, rfl, h2, h3⟩
theorem own_sets {t : List Nd} (hv : V t) {p : Int} {i : Nat} (hi : i < t.length) (ho : own t p i) : (inf t i, (nx (nd t i)).length) ∈ sets t p 10 := by
 obtain ⟨_, h1, h2⟩ := own_kids hv hi ho
 rw [sets_mem]
 refine ⟨h1, by simpa using h2, ?_⟩
 cases hw : wid t p (inf t i) with
 | none => exact absurd ⟨ho, rfl⟩ (wid_none hw i hi)
 | some w =>
  obtain ⟨j, hj, hoj, hej, hwj, hf⟩ := wid_some.1 hw
  rcases Nat.lt_trichotomy i j with h | h | h
  ·exact absurd ⟨ho, rfl⟩ (hf i h)
  ·subst h; rw [hwj]
  ·have := hv.alike i hi j h ho.1 hoj.1 (by rw [ho.2, hoj.2]) hej.symm
   rw [hwj]; simp only; rw [this]
structure StratP (t : List Nd) (p : Int) (s : List Ch) (pi : Int → List Rat) : Prop where
 st : Strat t p s pi
 short : ∀ c, c ∈ s → ∀ x, x ∈ c.2 → x.size ≤ 12
theorem StratP.at {t : List Nd} {p : Int} {s : List Ch} {pi : Int → List Rat} (h : StratP t p s pi) {q : Int × Nat} (hq : q ∈ sets t p 10) : (pi q.1).length = q.2 ∧ psum (pi q.1) = 1 ∧ ∀ c, c < q.2 → OkR ((pi q.1).getD c 0) ∧ 0 ≤ (pi q.1).getD c 0 ∧ Dr 12 ((pi q.1).getD c 0) := by
 obtain ⟨h1, h2, h3⟩ := h.st.ok q hq
 refine ⟨h1, h3, fun c hc => ?_⟩
 have hm : (pi q.1).getD c 0 ∈ pi q.1 := by rw [getD_eq _ c 0 (by omega)]; exact List.getElem_mem _
 refine ⟨(h2 _ hm).1, (h2 _ hm).2, ?_⟩
 have hcs : (q.1, (pi q.1).map rt) ∈ s := by
  rw [h.st.eq]
  exact List.mem_map_of_mem (f := fun q : Int × Nat => (q.1, (pi q.1).map rt)) hq
 have h12 := h.short _ hcs (rt ((pi q.1).getD c 0)) (List.mem_map_of_mem hm)
 rw [rt_size] at h12
 exact dr_mono h12 (dr_len _)
open Classical in
noncomputable def chz (t : List Nd) (i : Nat) : List Rat := if h : ∃ rs : List Rat, od (nd t i) = rs.map rt then h.choose else []
theorem chz_eq {t : List Nd} {i : Nat} {rs : List Rat} (h : od (nd t i) = rs.map rt) : chz t i = rs := by
 have hex : ∃ rs : List Rat, od (nd t i) = rs.map rt := ⟨rs, h⟩
 unfold chz
 rw [dif_pos hex]
 exact map_rt_inj (hex.choose_spec.symm.trans h)
noncomputable def ed (t : List Nd) (σ : Int → Option (Int → List Rat)) (i c : Nat) : Rat :=
 if (nd t i).1 = 1 then (chz t i).getD c 0 else match σ (nd t i).2.1 with
  | none => 1
  | some pi => (pi (inf t i)).getD c 0
structure Mod (t : List Nd) : Prop where
 len : t.length ≤ 40
 pay : ∀ i, i < t.length → (nd t i).2.2.2.2.2.size ≤ 12
 odds : ∀ i, i < t.length → ∀ x, x ∈ od (nd t i) → x.size ≤ 12
def Two (t : List Nd) (p : Int) : Option (List Ch) → Option (Int → List Rat) → Prop
 | none, none => True
 | some s, some pi => StratP t p s pi
 | _, _ => False
theorem edge_ok {t : List Nd} (hv : V t) (hm : Mod t) {ss : List (Option (List Ch))} {σ : Int → Option (Int → List Rat)} (h : ∀ p : Int, p = 0 ∨ p = 1 → Two t p (ss.getD p.toNat none) (σ p)) {i : Nat} (hi : i < t.length) : Edge ss (nd t i) (ed t σ i) := by
 rcases hv.good i hi with ⟨k0, hnil, _⟩ | ⟨k1, hk, hl, rs, hrs, hok, hsum⟩ | ⟨k2, hk, p0, p1, _, _⟩
 ·refine ⟨fun e => by omega, fun _ h => absurd hnil h, fun c hc => by rw [hnil] at hc; simp at hc⟩
 ·have hz := chz_eq hrs
  have hrl : rs.length = (nx (nd t i)).length := by rw [← hl, hrs, List.length_map]
  refine ⟨fun _ => ⟨hl, fun c hc => ?_⟩, fun e => absurd k1 e, fun c hc => ?_⟩
  ·unfold ed
   rw [if_pos k1, hz, hrs, getD_mapR rs c (by omega)]
   exact ⟨rfl, (hok _ (by rw [getD_eq _ c 0 (by omega)]; exact List.getElem_mem _)).1⟩
  ·unfold ed
   rw [if_pos k1, hz]
   have hmem : rs.getD c 0 ∈ rs := by rw [getD_eq _ c 0 (by omega)]; exact List.getElem_mem _
   have h12 := hm.odds i hi (rt (rs.getD c 0)) (by rw [hrs]; exact List.mem_map_of_mem hmem)
   rw [rt_size] at h12
   exact dr_mono h12 (dr_len _)
 ·have ho : own t (nd t i).2.1 i := ⟨k2, rfl⟩
  have hq := own_sets hv hi ho
  have n1 : (nd t i).1 ≠ 1 := by omega
  have h2 := h (nd t i).2.1 (by omega)
  have hed : ∀ c, ed t σ i c = match σ (nd t i).2.1 with | none => 1 | some pi => (pi (inf t i)).getD c 0 := fun c => by unfold ed; rw [if_neg n1]
  refine ⟨fun e => absurd e n1, fun _ _ => ⟨p0, by omega, fun hs c => ?_, fun s hs c hc => ?_⟩, fun c hc => ?_⟩
  ·rw [hs] at h2
   rw [hed]
   cases hσ : σ (nd t i).2.1 with
   | none => rfl
   | some pi => rw [hσ] at h2; exact h2.elim
  ·rw [hs] at h2
   rw [hed]
   cases hσ : σ (nd t i).2.1 with
   | none => rw [hσ] at h2; exact h2.elim
   | some pi => rw [hσ] at h2; exact odd_ok h2.st hq hc
  ·rw [hed]
   cases hσ : σ (nd t i).2.1 with
   | none => exact dr_mono (by decide) dr_one
   | some pi =>
    rw [hσ] at h2
    cases hs : ss.getD (nd t i).2.1.toNat none with
    | none => rw [hs] at h2; exact h2.elim
    | some s => rw [hs] at h2; exact (h2.at hq).2.2 c hc |>.2.2
end Go.Proofs.YtbcooccafbccdaaGreatDoor
