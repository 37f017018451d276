/- The plain laws of ReplyGets and ReplyMost. -/
import Derived.Test.YtbcooccafbccdaaGreatDoorWi
namespace Go.Proofs.YtbcooccafbccdaaGreatDoor
open Go Vm
theorem exchange (e : Nat → Rat) (κ : Nat → Nat) (W : Nat → Rat) (N : Nat) : ∀ n : Nat, (∀ j, j < n → κ j < N) → fs (fun j => e j * W (κ j)) n = fs (fun k => W k * fs (fun j => if κ j = k then e j else 0) n) N
 | 0, _ => by
  simp only [fs]
  rw [show (fun k => W k * (0 : Rat)) = fun _ => 0 from funext fun k => Rat.mul_zero _, fs_zero]
 | n + 1, h => by
  rw [fs, exchange e κ W N n fun j hj => h j (by omega)]
  have e1 : ∀ k, W k * fs (fun j => if κ j = k then e j else 0) (n + 1) = W k * fs (fun j => if κ j = k then e j else 0) n + (if k = κ n then W k * e n else 0) := fun k => by
   rw [fs]
   by_cases hk : k = κ n
   ·rw [if_pos hk, if_pos hk.symm]; grind
   ·rw [if_neg hk, if_neg (fun x => hk x.symm)]; grind
  rw [fs_ext fun k _ => e1 k, fs_add, fs_single (fun k => W k * e n) (κ n) N, if_pos (h n (by omega))]
  grind
theorem val_sum {t : List Nd} {p : Int} {b : List Int} {N : Nat} (hb : ∀ y, 0 ≤ b.getD y 0 ∧ b.getD y 0 < (N : Int)) {R C W : Nat → Rat} (h : ∀ y, y < t.length → R y = C y * W (b.getD y 0).toNat) : sgp p * fs (et t R) t.length = fs (fun k => W k * vl t p b C t.length k) N := by
 have e1 : sgp p * fs (et t R) t.length = fs (fun j => (sgp p * et t C j) * W (b.getD j 0).toNat) t.length := by
  rw [Rat.mul_comm, ← fs_mul]
  refine fs_ext fun j hj => ?_
  unfold et
  split
  ·rw [h j hj]; grind
  ·rw [Rat.zero_mul, Rat.mul_zero, Rat.zero_mul]
 rw [e1]
 exact exchange (fun j => sgp p * et t C j) (fun j => (b.getD j 0).toNat) W N t.length fun j _ => by have := hb j; omega
theorem wgt_nonneg {t : List Nd} {p : Int} {bs : List Bk} (hbef : BefOk 1 bs) (hm : ∀ q, q ∈ bs → (q.1, q.2.1) ∈ sets t p 10) {s : List Ch} {pi : Int → List Rat} (hs : StratP t p s pi) {W : Nat → Rat} (hW : Wgt bs pi W) : ∀ n k : Nat, k < n → k < tot bs + 1 → 0 ≤ W k
 | 0, k, h, _ => by omega
 | n + 1, k, h, hk => by
  by_cases h0 : k = 0
  ·rw [h0, hW.root]; decide
  ·obtain ⟨pre, q, post, c, e1, e2, e3⟩ := place (bs := bs) (k := k - 1) (by omega)
   have hb := befOk_at (pre := pre) (n := 1) (q := q) (post := post) (by rw [← e1]; exact hbef)
   have hq : q ∈ bs := by rw [e1]; simp
   rw [show k = tot pre + 1 + c by omega, hW.at_ pre q post c e1 e2]
   exact Rat.mul_nonneg (wgt_nonneg hbef hm hs hW n q.2.2 (by omega) (by omega)) ((hs.at (hm q hq)).2.2 c e2).2.1
theorem wgt_vw {t : List Nd} {p : Int} {bs : List Bk} (hbef : BefOk 1 bs) (hm : ∀ q, q ∈ bs → (q.1, q.2.1) ∈ sets t p 10) {s : List Ch} {pi : Int → List Rat} (hs : StratP t p s pi) {W : Nat → Rat} (hW : Wgt bs pi W) : VW bs W := by
 intro pre q post e
 have hq : q ∈ bs := by rw [e]; simp
 obtain ⟨h1, h2, h3⟩ := hs.at (hm q hq)
 have h1 : (pi q.1).length = q.2.1 := h1
 have htot : tot bs = tot pre + (q.2.1 + tot post) := by rw [e, tot_append, tot_cons]
 refine ⟨fun c hc => wgt_nonneg hbef hm hs hW (tot bs + 1) _ (by omega) (by omega), ?_⟩
 rw [fs_ext fun c hc => hW.at_ pre q post c e hc]
 have e1 : fs (fun c => W q.2.2 * (pi q.1).getD c 0) q.2.1 = fs (fun c => (pi q.1).getD c 0 * W q.2.2) q.2.1 := fs_ext fun c _ => Rat.mul_comm _ _
 rw [e1, fs_mul, ← h1, ← psum_range, range_map_getD, h2, Rat.one_mul]
theorem ed_split {t : List Nd} (hv : V t) {p : Int} {pa pb pp po : Int → List Rat} (hp : p = 0 ∨ p = 1) (h1 : two pa pb p = some pp) (h2 : two pa pb (1 - p) = some po) :
  (∀ i, own t p i → ∀ c, ed t (two pa pb) i c = (pp (inf t i)).getD c 0 ∧ ed t (one p po) i c = 1) ∧ ∀ i, i < t.length → ¬ own t p i → ∀ c, c < (nx (nd t i)).length → ed t (two pa pb) i c = ed t (one p po) i c := by
 constructor
 ·intro i ho c
  have n1 : (nd t i).1 ≠ 1 := by have := ho.1; omega
  unfold ed
  rw [if_neg n1, if_neg n1, ho.2, h1]
  refine ⟨rfl, ?_⟩
  unfold one
  rw [if_neg (by omega)]
 ·intro i hi ho c hc
  rcases hv.good i hi with ⟨k0, hnil, _⟩ | ⟨k1, _⟩ | ⟨k2, _, p0, p1, _, _⟩
  ·rw [hnil] at hc; simp at hc
  ·unfold ed
   rw [if_pos k1, if_pos k1]
  ·have hq : (nd t i).2.1 = 1 - p := by
    have : (nd t i).2.1 ≠ p := fun e => ho ⟨k2, e⟩
    omega
   have n1 : (nd t i).1 ≠ 1 := by omega
   unfold ed
   rw [if_neg n1, if_neg n1, hq, h2]
   unfold one
   rw [if_pos rfl]
structure BestOk (t : List Nd) (p : Int) (s : List Ch) (po : Int → List Rat) (x : Rat) (st : List Ch) : Prop where
 v : V t
 p01 : p = 0 ∨ p = 1
 check : f_tree_Check fuel t = some 0
 other : f_recall_Strategy fuel t (1 - p) s = some 0
 strat : StratP t (1 - p) s po
 ok : OkR x
 most : ∀ (sp : List Ch) (pp : Int → List Rat), StratP t p sp pp → ∀ pa pb, two pa pb p = some pp → two pa pb (1 - p) = some po → ∀ R, RR t (ed t (two pa pb)) t.length R → sgp p * fs (et t R) t.length ≤ x
 gets : f_recall_Strategy fuel t p st = some 0 ∧ ∃ pp, StratP t p st pp ∧ ∀ pa pb, two pa pb p = some pp → two pa pb (1 - p) = some po → ∀ R, RR t (ed t (two pa pb)) t.length R → sgp p * fs (et t R) t.length = x
theorem w1p {p : Int} (hp : p = 0 ∨ p = 1) : IntKind.i64.wrap (1 - p) = 1 - p := by rcases hp with rfl | rfl <;> decide
theorem player_check {t : List Nd} {p : Int} (h : f_tree_Player fuel t p = some 0) : f_tree_Check fuel t = some 0 := by
 unfold f_tree_Player at h
 cases hc : f_tree_Check fuel t with
 | none => rw [hc] at h; simp at h
 | some e =>
  rw [hc, Option.bind_some] at h
  by_cases e0 : e = 0
  ·rw [e0]
  ·rw [if_pos (by simpa using e0)] at h
   exact h
theorem best_spec {t : List Nd} (ht : WT t) (hm : Mod t) {s : List Ch} (hs : WS s) (hsh : ∀ c, c ∈ s → ∀ x, x ∈ c.2 → x.size ≤ 12) (p : Int) :
  (∃ e : Int, e ≠ 0 ∧ f_reply_Best fuel t p s = some (⟨#[]⟩, [], e)) ∨ ∃ po x st, BestOk t p s po x st ∧ f_reply_Best fuel t p s = some (rt x, st, 0) := by
 obtain ⟨e, he, hpl⟩ := player_ok ht p
 unfold f_reply_Best
 rw [he, Option.bind_some]
 by_cases e0 : e = 0
 ·subst e0
  obtain ⟨hv, hp⟩ := hpl rfl
  rw [if_neg (by decide)]
  obtain ⟨pb, r, _, hr, _⟩ := fine_ok hv p
  rw [hr, Option.bind_some]
  cases r with
  | false => rw [if_pos (by decide)]; exact .inl ⟨10, by decide, rfl⟩
  | true =>
   rw [if_neg (by decide), w1p hp]
   obtain ⟨e2, he2, hst⟩ := strategy_ok hv (1 - p) hs
   rw [he2, Option.bind_some]
   by_cases e20 : e2 = 0
   ·subst e20
    rw [if_neg (by decide)]
    obtain ⟨po, hpo⟩ := hst rfl
    have hsp : StratP t (1 - p) s po := ⟨hpo, hsh⟩
    obtain ⟨bs, b, hL, hli⟩ := list_ok hv p
    have hpr := pr_of hv hr hli
    obtain ⟨C, x, g, q, b1, b2, b3, b4, b5, b6, b7⟩ := best_ok hv hm hp hL hpr hsp
    rw [b2, Option.bind_some]
    simp only
    rw [told_ok b3 b4 (by decide), Option.bind_some]
    by_cases ho : OkR x
    ·rw [if_pos ho, if_neg (by simp)]
     refine .inr ⟨po, x, _, ?_, rfl⟩
     have hperm := blocks_sets hv hli
     have hmem : ∀ q, q ∈ bs → (q.1, q.2.1) ∈ sets t p 10 := fun q hq => hperm.mem_iff.1 (List.mem_map_of_mem (f := fun q : Bk => (q.1, q.2.1)) hq)
     have hbb : ∀ y, 0 ≤ b.getD y 0 ∧ b.getD y 0 < ((tot bs + 1 : Nat) : Int) := fun y => hli.bound y
     have gen : ∀ (sp : List Ch) (pp : Int → List Rat), StratP t p sp pp → ∀ pa pb, two pa pb p = some pp → two pa pb (1 - p) = some po → ∀ R, RR t (ed t (two pa pb)) t.length R → ∃ W, Wgt bs pp W ∧ VW bs W ∧ W 0 = 1 ∧ sgp p * fs (et t R) t.length = fs (fun k => W k * vl t p b C t.length k) (tot bs + 1) := by
      intro sp pp hspp pa pb h1 h2 R hR
      have hW := wgt_of (bs := bs) pp hli.bef
      obtain ⟨d1, d2⟩ := ed_split hv hp h1 h2
      exact ⟨_, hW, wgt_vw hli.bef hmem hspp hW, hW.root, val_sum hbb fun y hy => reach_split hv hpr hW hR b1 d1 d2 t.length y hy hy⟩
     obtain ⟨sp1, sp2⟩ := strat_pure hv hli b5
     refine ⟨hv, hp, player_check he, he2, hsp, ho, fun sp pp hspp pa pb h1 h2 R hR => ?_, ?_, _, sp1, fun pa pb h1 h2 R hR => ?_⟩
     ·obtain ⟨W, w1, w2, w3, w4⟩ := gen sp pp hspp pa pb h1 h2 R hR
      rw [w4]; exact b6 W w2 w3
     ·refine strat_true hv sp1.st fun r hr => ?_
      obtain ⟨c, c1, c2, c3⟩ := sp2 r hr
      obtain ⟨a1, a2⟩ := sp1.st.ok r hr
      have hp01 : ∀ r', r' ∈ pig t p g r.1 → 0 ≤ r' ∧ Zd 1 r' := fun r' hr' => by
       rw [c3] at hr'
       obtain ⟨k, _, rfl⟩ := List.mem_map.1 hr'
       split
       ·exact ⟨by decide, Zd.den 1⟩
       ·exact ⟨Rat.le_refl, Zd.zero⟩
      have hlen : (pig t p g r.1).length ≤ 256 := by
       rw [a1]
       obtain ⟨q, hq, e⟩ := List.mem_map.1 (hperm.mem_iff.2 hr)
       have := li_width hv (Nat.le_refl _) hli hq
       rw [← e]
       show q.2.1 ≤ 256
       omega
      exact odds_true _ hlen (fun r' hr' => (a2.1 r' hr').1) (fun r' hr' => (a2.1 r' hr').2) a2.2 fun k _ => part_ok (by decide) (q := 1) (by decide) (by decide) hp01 (by rw [a2.2]; exact Rat.le_refl) k
     ·obtain ⟨W, w1, w2, w3, w4⟩ := gen _ _ sp1 pa pb h1 h2 R hR
      rw [w4]
      refine b7 W w2 w3 fun pre' q post' e hq c hc hg => ?_
      rw [w1.at_ pre' q post' c e hc]
      obtain ⟨c', c1, c2, c3⟩ := sp2 _ (hmem q hq)
      simp only at c1 c2 c3
      have : (pig t p g q.1).getD c 0 = 0 := by
       rw [c3, getD_eq _ c 0 (by rw [List.length_map, List.length_range]; exact hc), List.getElem_map, List.getElem_range, if_neg (fun e => hg (by rw [c1, e]))]
      rw [this, Rat.mul_zero]
    ·rw [if_neg ho, if_pos (by simp)]
     exact .inl ⟨2, by decide, rfl⟩
   ·rw [if_pos (by simpa using e20)]
    exact .inl ⟨e2, e20, rfl⟩
 ·rw [if_pos (by simpa using e0)]
  exact .inl ⟨e, e0, rfl⟩
theorem check_of {t : List Nd} {a b : List Ch} (h1 : f_tree_Check fuel t = some 0) (h2 : f_recall_Strategy fuel t 0 a = some 0) (h3 : f_recall_Strategy fuel t 1 b = some 0) : f_reply_Check fuel t a b = some 0 := by
 unfold f_reply_Check
 rw [h1, Option.bind_some, if_neg (by decide), h2, Option.bind_some, if_neg (by decide), h3, Option.bind_some]
theorem gets_true (t : List Nd) (p : Int) (s : List Ch) (ht : WT t) (hs : WS s) : f_gamehallkeep2_ReplyGets fuel t p s = some true := by
 unfold f_gamehallkeep2_ReplyGets
 rw [replyFact_true, Option.bind_some, if_neg (by decide)]
 obtain ⟨r, hr, hm⟩ := modest_ok ht
 rw [hr, Option.bind_some]
 cases r with
 | false => rfl
 | true =>
  have hm := hm rfl
  rw [if_pos (by decide)]
  obtain ⟨r, hr, hsh⟩ := plain_1 hs
  rw [hr, Option.bind_some]
  cases r with
  | false => rfl
  | true =>
   rw [if_neg (by decide)]
   rcases best_spec ht hm hs (hsh rfl) p with ⟨e, e0, g⟩ | ⟨po, x, st, h, g⟩
   ·rw [g, Option.bind_some, if_pos (by simpa using e0), if_pos (by simp)]; rfl
   ·obtain ⟨g1, pp, g2, g3⟩ := h.gets
    rw [g, Option.bind_some, if_neg (by simp)]
    rcases h.p01 with hp | hp
    ·subst hp
     have ha : StratP t 0 st pp := g2
     have hb : StratP t 1 s po := h.strat
     obtain ⟨R, r1, r2⟩ := value_ok h.v hm ha hb (check_of h.check g1 h.other)
     have e := g3 pp po rfl rfl R r1
     rw [sgp_mul, if_neg (by decide)] at e
     rw [if_neg (by decide), r2, e, if_pos h.ok, Option.bind_some, if_neg (by decide), if_pos (by simp)]
     simp
    ·subst hp
     have ha : StratP t 0 s po := h.strat
     have hb : StratP t 1 st pp := g2
     obtain ⟨R, r1, r2⟩ := value_ok h.v hm ha hb (check_of h.check h.other g1)
     have e := g3 po pp rfl rfl R r1
     rw [sgp_mul, if_pos rfl] at e
     have e' : fs (et t R) t.length = -x := by grind
     rw [if_pos (by decide), r2, e', if_pos (okr_neg h.ok), Option.bind_some, if_pos (by decide), if_pos (by simp)]
     simp only
     rw [rat_neg (okr_neg h.ok), Option.bind_some, if_pos (by simp), Rat.neg_neg]
     simp
theorem value_spec {t : List Nd} (ht : WT t) (hm : Mod t) {a b : List Ch} (ha : WS a) (hb : WS b) (sa : ∀ c, c ∈ a → ∀ x, x ∈ c.2 → x.size ≤ 12) (sb : ∀ c, c ∈ b → ∀ x, x ∈ c.2 → x.size ≤ 12) :
  (∃ e : Int, e ≠ 0 ∧ f_reply_Value fuel t a b = some (⟨#[]⟩, e)) ∨ ∃ pa pb R, V t ∧ StratP t 0 a pa ∧ StratP t 1 b pb ∧ f_reply_Check fuel t a b = some 0 ∧ RR t (ed t (two pa pb)) t.length R ∧ OkR (fs (et t R) t.length) ∧ f_reply_Value fuel t a b = some (rt (fs (et t R) t.length), 0) := by
 obtain ⟨e, he, hc⟩ := rpcheck ht ha hb
 by_cases e0 : e = 0
 ·subst e0
  obtain ⟨hv, ⟨pa, hpa⟩, pb, hpb⟩ := hc rfl
  obtain ⟨R, r1, r2⟩ := value_ok hv hm ⟨hpa, sa⟩ ⟨hpb, sb⟩ he
  by_cases ho : OkR (fs (et t R) t.length)
  ·rw [if_pos ho] at r2
   exact .inr ⟨pa, pb, R, hv, ⟨hpa, sa⟩, ⟨hpb, sb⟩, he, r1, ho, r2⟩
  ·rw [if_neg ho] at r2
   exact .inl ⟨2, by decide, r2⟩
 ·refine .inl ⟨e, e0, ?_⟩
  unfold f_reply_Value
  rw [he, Option.bind_some, if_pos (by simpa using e0)]
theorem strat_unique {t : List Nd} {p : Int} {s : List Ch} {pi pi' : Int → List Rat} (h : Strat t p s pi) (h' : Strat t p s pi') : ∀ q, q ∈ sets t p 10 → pi q.1 = pi' q.1 := by
 intro q hq
 have e : (sets t p 10).map (fun q : Int × Nat => (q.1, (pi q.1).map rt)) = (sets t p 10).map fun q => (q.1, (pi' q.1).map rt) := h.eq.symm.trans h'.eq
 have := (List.map_inj_left.1 e) q hq
 simp only [Prod.mk.injEq, true_and] at this
 exact map_rt_inj this
theorem ed_unique {t : List Nd} (hv : V t) {a b : List Ch} {pa pb pa' pb' : Int → List Rat} (ha : Strat t 0 a pa) (ha' : Strat t 0 a pa') (hb : Strat t 1 b pb) (hb' : Strat t 1 b pb') : ∀ i, i < t.length → ∀ c, c < (nx (nd t i)).length → ed t (two pa pb) i c = ed t (two pa' pb') i c := by
 intro i hi c hc
 rcases hv.good i hi with ⟨k0, hnil, _⟩ | ⟨k1, _⟩ | ⟨k2, _, p0, p1, _, _⟩
 ·rw [hnil] at hc; simp at hc
 ·unfold ed; rw [if_pos k1, if_pos k1]
 ·have n1 : (nd t i).1 ≠ 1 := by omega
  have ho : own t (nd t i).2.1 i := ⟨k2, rfl⟩
  have hq := own_sets hv hi ho
  unfold ed
  rw [if_neg n1, if_neg n1]
  have h01 : (nd t i).2.1 = 0 ∨ (nd t i).2.1 = 1 := by omega
  rcases h01 with e | e
  ·rw [e] at hq ⊢
   show (pa (inf t i)).getD c 0 = (pa' (inf t i)).getD c 0
   rw [strat_unique ha ha' _ hq]
  ·rw [e] at hq ⊢
   show (pb (inf t i)).getD c 0 = (pb' (inf t i)).getD c 0
   rw [strat_unique hb hb' _ hq]
theorem RR.congr {t : List Nd} {ρ ρ' : Nat → Nat → Rat} {R : Nat → Rat} (h : RR t ρ t.length R) (e : ∀ i, i < t.length → ∀ c, c < (nx (nd t i)).length → ρ i c = ρ' i c) : RR t ρ' t.length R :=
 ⟨h.root, fun j hj c k hc => by rw [← e j hj c (List.getElem?_eq_some_iff.1 hc).1]; exact h.kid j hj c k hc, h.dr⟩
theorem replyGets_plain : ∀ x : List Nd × (Int × List Ch), WfL [.slice (.pair (.int .i64) (.pair (.int .i64) (.pair (.int .i64) (.pair (.slice (.int .i64)) (.pair (.slice .str) .str))))), .int .i64, .slice (.pair (.int .i64) (.slice .str))] x → f_gamehallkeep2_ReplyGets fuel x.1 x.2.1 x.2.2 = some true :=
 fun x h => gets_true x.1 x.2.1 x.2.2 (wt_of' h.1) (ws_of' h.2.2)
end Go.Proofs.YtbcooccafbccdaaGreatDoor
