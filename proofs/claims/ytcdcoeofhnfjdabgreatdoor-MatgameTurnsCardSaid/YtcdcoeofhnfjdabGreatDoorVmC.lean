/- A small machine over the model, and that its runs tell what the model does: part 3. -/
import Derived.Test.YtcdcoeofhnfjdabGreatDoorVmB
import Derived.Scope
import Derived.LoopN
import Derived.OrdersHeld
/- Calls by contract: soundness. -/
namespace Vm
open Go
section
variable {ρ : Type} {P : Program} {E : Env} {Pr : Nat -> Prop} {w0 : St} {w w' : World} {stk : List (Array Value)} {s : MS} {a : Act} {G : Gh} {o : Oper} {Q : Exit -> Act -> World -> Prop} {K : AV -> MS -> Option ρ} {r : ρ} {tm : Array Value}
def PartRd (w : World) (I : Nat -> Prop) (h : Hv) (p : Bool × List LV) (y : Value) : Prop :=
 if p.1 then ∃ cs, y = .agg cs /\ LsRd w I h p.2 cs.toList else cell1 y = true /\ LsRd w I h p.2 [y]
theorem PartRd.congr {I : Nat -> Prop} {h h' : Hv} {p : Bool × List LV} {y : Value} (e : ∀ i, p.2.any (LV.has i) = true -> h' i = h i) (k : PartRd w I h p y) : PartRd w I h' p y := by
 unfold PartRd at k ⊢
 cases hb : p.1 <;> simp only [hb, if_true, if_false, Bool.false_eq_true] at k ⊢
 ·exact ⟨k.1, k.2.congr e⟩
 ·obtain ⟨cs, e', k⟩ := k; exact ⟨cs, e', k.congr e⟩
theorem w8d {t : Ty} : ∀ {x : t.den} {i : Nat}, (leaves t x).any (LV.has i) = false := by
 induction t with
 | pair a b iha ihb => intro x i; simp only [leaves, List.any_append, iha, ihb, Bool.or_self]
 | _ => intro x i; rfl
theorem wv8 {G : Gh} {id j : Nat} (v : Value) (bs : List Nat) (h : j ≠ id) : (G.at id v bs).h j = G.h j := by simp [Gh.at, h]
theorem wl8 {G : Gh} {id j : Nat} (v : Value) (bs : List Nat) (h : j ≠ id) : (G.at id v bs).bs j = G.bs j := by simp [Gh.at, h]
theorem v1q {still : Bool} {id : Nat} {ob : Obj} {s' : MS} (h : s.mk? still id ob = some s') {j : Nat} {o' : Obj} (ho : s'.obj j = some o') : (j = id /\ o' = ob) \/ (j ≠ id /\ s.obj j = some o') := by
 obtain ⟨_, s1, rfl, _, h1⟩ := y3v h
 replace ho : (s1.upd id ob).obj j = some o' := ho
 rw [zh6] at ho
 by_cases e : j = id
 ·subst e; simp at ho; exact .inl ⟨rfl, ho.symm⟩
 ·simp only [e, if_false] at ho
  refine .inr ⟨e, ?_⟩
  rcases h1 with rfl | rfl
  ·exact ho
  ·exact (z0w ho).2.1
theorem wi2 (k : Rel Pr w0 stk s tm w' G) {still : Bool} {id : Nat} {rm : RM} {x : rm.den} {p : Bool × List LV} {s' : MS} (h : w2d still id rm x s = some (p, s')) {y : Value} {bs : List Nat}
  (hr : ResOne w w' G.I rm x y bs) (hfree : ∀ b, b ∈ bs -> ∀ i ob, s.obj i = some ob -> b ∉ G.bs i) (hPr : ∀ b, w.heap.size <= b -> ¬ Pr b) :
  ∃ G', Rel Pr w0 stk s' tm w' G' /\ G'.I = G.I /\ (∀ j, j ≠ id -> G'.h j = G.h j) /\ (∀ j ob, s'.obj j = some ob -> ∀ b, b ∈ G'.bs j -> b ∈ bs \/ (∃ ob', s.obj j = some ob' /\ b ∈ G.bs j)) /\
   PartRd w' G'.I G'.h p y /\ ∀ i, p.2.any (LV.has i) = true -> i = id := by
 cases rm with
 | imm t =>
  simp only [w2d, Option.some.injEq, Prod.mk.injEq] at h
  obtain ⟨rfl, rfl⟩ := h
  obtain ⟨rfl, h1, h2⟩ := hr
  refine ⟨G, k, rfl, fun _ _ => rfl, fun j ob hj b hb => .inr ⟨ob, hj, hb⟩, ?_, fun i hi => by rw [w8d] at hi; cases hi⟩
  unfold PartRd
  cases ht : t.agg <;> simp only [ht, if_true, if_false, Bool.false_eq_true] at h2 ⊢
  ·rw [z34 h2] at h1; exact ⟨h2, LsRd.leaves h1⟩
  ·obtain ⟨cs, rfl⟩ := h2; exact ⟨cs, rfl, LsRd.leaves h1⟩
 | fresh t =>
  simp only [w2d, Option.map_eq_some_iff, Prod.mk.injEq] at h
  obtain ⟨s1, hm, rfl, rfl⟩ := h
  have hnew := hr.new
  have hob : ∃ A n c, y = .slice A n c /\ Ob w' (G.at id y bs) id (.buf t x) /\ ∀ b, b ∈ bs -> b < w'.heap.size := by
   rcases hr with ⟨rfl, rfl, rfl⟩ | ⟨b, c, C, E, fz, rfl, rfl, h3, h4, h5, h6, h7, h8, h9⟩
   ·exact ⟨none, 0, 0, rfl, .inl ⟨y1x .., rfl, zu0 ..⟩, by simp⟩
   ·exact ⟨_, _, _, rfl, .inr ⟨b, c, C, E, fz, y1x .., zu0 .., h3, h4, h5, h6, h7⟩, fun b' hb' => by rw [List.mem_singleton] at hb'; subst hb'; exact (Array.getElem?_eq_some_iff.1 h4).1⟩
  obtain ⟨A, n, c, hy, hob, hsz⟩ := hob
  obtain ⟨_, s2, hs2, hun, h12⟩ := y3v hm
  have k2 : Rel Pr w0 stk s2 tm w' G := by
   rcases h12 with rfl | rfl
   ·exact k
   ·exact k.kill id
  have hfree2 : ∀ b, b ∈ bs -> ∀ id' o', id' ≠ id -> s2.obj id' = some o' -> b ∉ G.bs id' := by
   intro b hb id' o' _ ho'
   rcases h12 with rfl | rfl
   ·exact hfree b hb id' o' ho'
   ·exact hfree b hb id' o' (z0w ho').2.1
  refine ⟨G.at id y bs, ?_, rfl, fun j hj => wv8 _ _ hj, fun j ob hj b hb => ?_, ?_, fun i hi => ?_⟩
  ·rw [hs2]
   exact k2.add hun hob (fun b hb => ⟨hPr b (hnew b hb).1, (hnew b hb).2, hsz b hb⟩) hfree2
  ·rcases v1q hm hj with ⟨rfl, _⟩ | ⟨hne, hj⟩
   ·rw [zu0] at hb; exact .inl hb
   ·rw [wl8 _ _ hne] at hb; exact .inr ⟨ob, hj, hb⟩
  ·unfold PartRd
   simp only [Bool.false_eq_true, if_false]
   subst hy
   exact ⟨rfl, LsRd.one ⟨A, n, c, y1x .., rfl⟩⟩
  ·simp only [List.any_cons, List.any_nil, Bool.or_false, LV.has, beq_iff_eq] at hi; exact hi.symm
theorem w6z {still : Bool} : ∀ {rs : List RM} {id : Nat} {s s' : MS} {G : Gh} {x : yo5 rs} {l : List (Bool × List LV)} {ys : List Value} {bs : List Nat}, y93 still id rs x s = some (l, s') -> Rel Pr w0 stk s tm w' G ->
  ResAll w w' G.I rs x ys bs -> bs.Nodup -> (∀ b, b ∈ bs -> ∀ i ob, s.obj i = some ob -> b ∉ G.bs i) -> (∀ b, w.heap.size <= b -> ¬ Pr b) ->
  ∃ G', Rel Pr w0 stk s' tm w' G' /\ G'.I = G.I /\ (∀ j, j < id -> G'.h j = G.h j) /\ l.length = ys.length /\
   ∀ (i : Nat) (p : Bool × List LV) (y : Value), l[i]? = some p -> ys[i]? = some y -> PartRd w' G'.I G'.h p y
 | [], id, s, s', G, x, l, ys, bs, h, k, hr, _, _, _ => by
  simp only [y93, Option.some.injEq, Prod.mk.injEq] at h
  obtain ⟨rfl, rfl⟩ := h
  obtain ⟨rfl, _⟩ := hr
  exact ⟨G, k, rfl, fun _ _ => rfl, rfl, by simp⟩
 | [rm], id, s, s', G, x, l, ys, bs, h, k, hr, hd, hf, hp => by
  simp only [y93, Option.map_eq_some_iff] at h
  obtain ⟨⟨p, s1⟩, h1, e⟩ := h
  simp only [Prod.mk.injEq] at e
  obtain ⟨rfl, rfl⟩ := e
  obtain ⟨y, rfl, hr⟩ := hr
  obtain ⟨G', g1, g2, g3, g4, g5, g6⟩ := wi2 k h1 hr hf hp
  refine ⟨G', g1, g2, fun j hj => g3 j (by omega), rfl, fun i q z hq hz => ?_⟩
  cases i with
  | zero => simp at hq hz; subst hq; subst hz; exact g5
  | succ i => simp at hq
 | rm :: rm' :: rs, id, s, s', G, x, l, ys, bs, h, k, hr, hd, hf, hp => by
  simp only [y93, Option.bind_eq_some_iff, Option.map_eq_some_iff] at h
  obtain ⟨⟨p, s1⟩, h1, ⟨l', s2⟩, h2, e⟩ := h
  simp only [Prod.mk.injEq] at e
  obtain ⟨rfl, rfl⟩ := e
  obtain ⟨y, ys', b1, b2, rfl, rfl, hr1, hr2⟩ := hr
  obtain ⟨hd1, hd2, hd3⟩ := List.nodup_append.1 hd
  obtain ⟨G', g1, g2, g3, g4, g5, g6⟩ := wi2 k h1 hr1 (fun b hb => hf b (List.mem_append_left _ hb)) hp
  have hf' : ∀ b, b ∈ b2 -> ∀ i ob, s1.obj i = some ob -> b ∉ G'.bs i := by
   intro b hb i ob hi hm
   rcases g4 i ob hi b hm with h | ⟨ob', h, h'⟩
   ·exact hd3 b h b hb rfl
   ·exact hf b (List.mem_append_right _ hb) i ob' h h'
  obtain ⟨G'', e1, e2, e3, e4, e5⟩ := w6z h2 g1 (by rw [g2]; exact hr2) hd2 hf' hp
  refine ⟨G'', e1, e2.trans g2, fun j hj => (e3 j (by omega)).trans (g3 j (by omega)), by simp [e4], fun i q z hq hz => ?_⟩
  cases i with
  | zero =>
   simp at hq hz; subst hq; subst hz
   rw [e2]
   exact g5.congr fun i hi => e3 i (by have := g6 i hi; omega)
  | succ i => exact e5 i q z hq hz
theorem w6s {I : Nat -> Prop} {h : Hv} {l : List (Bool × List LV)} {ys : List Value} (hl : l.length = ys.length) (k : ∀ (i : Nat) (p : Bool × List LV) (y : Value), l[i]? = some p -> ys[i]? = some y -> PartRd w I h p y) :
  ARd w I h (w22 l) (packed ys) := by
 have tup : l.length ≠ 1 -> ARd w I h (.tup l) (packed ys) := by
  intro hne
  have : packed ys = .tuple ys.toArray := by
   match ys, hl with
   | [], _ => rfl
   | [_], hl => exact absurd hl hne
   | _ :: _ :: _, _ => rfl
  exact ⟨ys, this, hl.symm, fun i p y hp hy => k i p y hp hy⟩
 match l, ys, hl, k, tup with
 | [(b, m)], [y], _, k, _ =>
  have := k 0 _ _ rfl rfl
  cases b with
  | true =>
   obtain ⟨cs, e, k⟩ : ∃ cs, y = .agg cs /\ LsRd w I h m cs.toList := this
   exact ⟨cs, e, k⟩
  | false =>
   have this : cell1 y = true /\ LsRd w I h m [y] := this
   match m, this with
   | [v], this => exact ⟨this.1, LsRd.of_one this.2⟩
   | [], this => trivial
   | _ :: _ :: _, this => trivial
 | [], _, _, _, tup => exact tup (by simp)
 | a :: b :: m, _, _, _, tup =>
  have : w22 (a :: b :: m) = .tup (a :: b :: m) := by
   unfold w22
   split
   ·rename_i e; simp at e
   ·rename_i e; simp at e
   ·rename_i e; simp at e
   ·rfl
  rw [this]; exact tup (by simp)
def After {ρ : Type} (Pr : Nat -> Prop) (w0 : St) (stk : List (Array Value)) (tm : Array Value) (K : AV -> MS -> Option ρ) (r : ρ) : Ending -> World -> Prop
 | .returned v, w' => ∃ av s' G', Rel Pr w0 stk s' tm w' G' /\ ARd w' G'.I G'.h av v /\ K av s' = some r
 | _, _ => False
theorem zo2 (hP : ∀ b, Pr b -> b < w0.heap.size) (k : Rel Pr w0 stk s tm w G) {still : Bool} {d : Option Nat} {c : Spec} {f : FuncId} (hc : c.holds P f) {avs : List AV} {vs : Array Value} (hl : avs.length = vs.size)
  (hr : ∀ (i : Nat) (u : AV) (v : Value), avs[i]? = some u -> vs[i]? = some v -> ARd w G.I G.h u v) (h : y3r s still d c avs K = some r) : Calls P f vs w (fun e w' => After Pr w0 stk tm K r e w' /\ Grow w w') := by
 have hPw : ∀ b, Pr b -> b < w.heap.size := fun b hb => Nat.lt_of_lt_of_le (hP b hb) k.keep.size
 unfold y3r at h
 split at h
 ·cases h
 ·rename_i x hx
  split at h
  ·cases h
  ·rename_i s1 hs1
   split at h
   ·cases h
   ·rename_i y hy
    split at h
    ·cases h
    ·rename_i l s2 hm
     -- the blocks that may be read
     obtain ⟨G1, J, k1, hargs, hJ, hJz, hflat⟩ : ∃ (G1 : Gh) (J : Nat -> Prop), Rel Pr w0 stk s1 tm w G1 /\ ArgsRd w J c.ps x vs.toList /\ (∀ b, G1.I b -> J b) /\
       (∀ b, J b -> b < w.heap.size) /\ ((∀ b, J b -> G1.I b) \/ c.al = false) := by
      unfold wv7 at hx
      cases hal : c.al with
      | false =>
       simp only [hal, Bool.false_eq_true, if_false, Option.some.injEq] at hs1 hx
       subst hs1
       exact ⟨G, _, k, w5p k hx (vs := vs.toList) (by simpa using hl) (fun i u v hu hv => hr i u v hu (by simpa using hv)), fun b hb => .inl hb, fun b hb => hb.elim (k.isz b) (wv5 k), .inr rfl⟩
      | true =>
       simp only [hal, if_true] at hs1 hx
       obtain ⟨G1, k1, h1, h2, h3⟩ := y6a k hs1
       exact ⟨G1, G1.I, k1, (w9o k hx (vs := vs.toList) (by simpa using hl) (fun i u v hu hv => hr i u v hu (by simpa using hv))).mono (fun _ _ => rfl) h1, fun b hb => hb, k1.isz, .inl fun b hb => hb⟩
     refine (hc w J vs x y hJz hargs hy).mono fun e w' he => ?_
     cases e with
     | panicked _ => exact he.elim
     | outgrown => exact he.elim
     | returned v =>
      obtain ⟨hg, I', ys, bs, rfl, hnd, hsub, hz, hres⟩ := he
      -- what may be read behind the call
      obtain ⟨I2, k2, hres2⟩ : ∃ I2 : Nat -> Prop, Rel Pr w0 stk s1 tm w' { G1 with I := I2 } /\ ResAll w w' I2 c.rs y ys bs := by
       rcases hflat with hf | hf
       ·exact ⟨I', k1.grow hPw hg (fun b hb => hsub b (hJ b hb)) (fun b hb => (hz b hb).1) (fun b hb => (hz b hb).2.imp (hf b) id), hres⟩
       ·exact ⟨G1.I, k1.grow hPw hg (fun b hb => hb) (fun b hb => Nat.lt_of_lt_of_le (k1.isz b hb) hg.size) (fun b hb => .inl hb), hres.flat (fun b hb => k1.isz b hb) hf⟩
      obtain ⟨G', e1, e2, e3, e4, e5⟩ := w6z hm k2 hres2 hnd (fun b hb i ob hi hm => Nat.lt_irrefl _ (Nat.lt_of_lt_of_le (k1.sep i ob b hi hm).2.2 (hres2.new b hb).1))
       (fun b hb hp => Nat.lt_irrefl _ (Nat.lt_of_lt_of_le (hPw b hp) hb))
      exact ⟨⟨w22 l, s2, G', e1, w6s e4 e5, h⟩, hg⟩
theorem zx3 (hP : ∀ b, Pr b -> b < w0.heap.size) (k : Rel Pr w0 stk s tm w G) {still : Bool} {d : Option Nat} {c : Spec} {f : FuncId} (hc : c.holds P f) {avs : List AV} {vs : Array Value} (hl : avs.length = vs.size)
  (hr : ∀ (i : Nat) (u : AV) (v : Value), avs[i]? = some u -> vs[i]? = some v -> ARd w G.I G.h u v) (h : y3r s still d c avs K = some r) : Calls P f vs w (After Pr w0 stk tm K r) :=
 (zo2 hP k hc hl hr h).mono fun _ _ h => h.1
end
end Vm
/- Structs of plain cells compared. -/
namespace Vm
open Go
def v0r (P : Program) (t : TypeId) (x y : Value) (b : Bool) : Prop := ∀ d w, (Op.equalIn (d + 1) t x y).run P w = .ok b w
theorem y9z {P : Program} (d : Nat) (xs ys : Array Value) (w : World) : ∀ (fs : List Field) (bs : List Bool), fs.length = bs.length ->
  (∀ (i : Nat) (f : Field) (b : Bool), fs[i]? = some f -> bs[i]? = some b -> f.name ≠ "_" /\ ∃ x y, (∀ w, (part f.type xs f.offset).run P w = .ok x w) /\ (∀ w, (part f.type ys f.offset).run P w = .ok y w) /\ v0r P f.type x y b) ->
  (Op.eqFields (d + 1) xs ys fs).run P w = .ok (bs.all id) w
 | [], [], _, _ => rfl
 | f :: fs, b :: bs, hl, h => by
  obtain ⟨h1, x, y, h2, h3, h4⟩ := h 0 f b rfl rfl
  have ih := y9z d xs ys w fs bs (by simpa using hl) fun i f b hf hb => h (i + 1) f b hf hb
  simp only [Op.eqFields]
  rw [if_pos h1]
  simp only [Sem.run_bind, h2, h3, Result.andThen_ok, h4 d w]
  cases b with
  | false => simp
  | true => simp [ih]
 | [], _ :: _, hl, _ => by simp at hl
 | _ :: _, [], hl, _ => by simp at hl
section
variable {ρ : Type} {P : Program} {E : Env} {Pr : Nat -> Prop} {w0 : St} {w : World} {stk : List (Array Value)} {s : MS} {a : Act} {G : Gh} {o : Oper} {Q : Exit -> Act -> World -> Prop} {K : AV -> MS -> Option ρ} {r : ρ}
theorem wk6 (hE : EOk P E) {t : TypeId} {k : IntKind} (h : E.ty? t = some (.int k)) : P.underlying t = some (.int k) := by
 obtain ⟨ti, h1, h2⟩ := z74 h
 obtain ⟨d, hd, ha, hm⟩ := (hE.te t ti h1).und
 rw [h2] at ha
 cases hk : ti.kd with
 | sc => rw [hk, h2] at hm; rw [hd, hm]
 | slice e => rw [hk, h2] at hm; obtain ⟨_, te, _, h | h⟩ := hm <;> cases h
 | st fs =>
  rw [hk] at hm; obtain ⟨_, f, rfl, _⟩ := hm; cases ha
 | ar n e => rw [hk, h2] at hm; obtain ⟨_, te, _, h⟩ := hm; cases h
 | ptr e => rw [hk, h2] at hm; cases hm.2
 | other => rw [hk, h2] at hm; cases hm
def wn3 : List LV -> List LV -> List Bool
 | .val (.int _) a :: l, .val (.int _) b :: l' => (a == b) :: wn3 l l'
 | _, _ => []
theorem w65 : ∀ {l l' : List LV} {b : Bool}, wn6 l l' = some b -> (wn3 l l').length = l.length /\ b = (wn3 l l').all id
 | [], [], _, h => by cases h; exact ⟨rfl, rfl⟩
 | .val (.int k) a :: l, .val (.int k') b :: l', r, h => by
  simp only [wn6] at h
  split at h
  ·simp only [Option.map_eq_some_iff] at h
   obtain ⟨r', h1, rfl⟩ := h
   obtain ⟨e1, e2⟩ := w65 h1
   exact ⟨by simp [wn3, e1], by simp [wn3, e2]⟩
  ·cases h
theorem ww9 {w : World} {I : Nat -> Prop} {h : Hv} : ∀ {l l' : List LV} {b : Bool} {xs ys : List Value}, wn6 l l' = some b -> LsRd w I h l xs -> LsRd w I h l' ys -> xs.length = l.length /\ ys.length = l.length /\
  ∀ (i : Nat) (b : Bool), (wn3 l l')[i]? = some b -> ∃ k m n, xs[i]? = some (.int k m) /\ ys[i]? = some (.int k n) /\ b = (m == n) := by
 intro l
 induction l with
 | nil =>
  intro l' b xs ys h hx hy
  cases l' with
  | nil =>
   obtain rfl : xs = [] := hx
   obtain rfl : ys = [] := hy
   exact ⟨rfl, rfl, fun i b hb => by simp [wn3] at hb⟩
  | cons => simp [wn6] at h
 | cons v l ih =>
  intro l' b xs ys h hx hy
  cases l' with
  | nil => cases v <;> simp [wn6] at h
  | cons v' l' =>
   unfold wn6 at h
   split at h
   ·cases ‹_ :: _ = []›
   ·rename_i k m l1 k' n l2 e1 e2
    cases e1; cases e2
    split at h
    ·rename_i hk
     subst hk
     simp only [Option.map_eq_some_iff] at h
     obtain ⟨r, h1, rfl⟩ := h
     obtain ⟨c1, c2, rfl, x1, x2⟩ := hx
     obtain ⟨d1, d2, rfl, y1, y2⟩ := hy
     obtain rfl : c1 = [Value.int k m] := x1
     obtain rfl : d1 = [Value.int k n] := y1
     obtain ⟨g1, g2, g3⟩ := ih h1 x2 y2
     refine ⟨by simp [g1], by simp [g2], fun i b hb => ?_⟩
     cases i with
     | zero =>
      simp only [wn3, List.getElem?_cons_zero, Option.some.injEq] at hb
      exact ⟨k, m, n, rfl, rfl, hb.symm⟩
     | succ i =>
      simp only [wn3, List.getElem?_cons_succ] at hb
      exact g3 i b hb
    ·cases h
   ·cases h
theorem yi5 : ∀ {fs : List Nat} {i n t' : Nat}, E.intSt fs = true -> E.fieldAt fs i = some (n, t') -> n = i /\ ∃ k, E.ty? t' = some (.int k)
 | [], _, _, _, _, h => by simp [Env.fieldAt] at h
 | t :: fs, 0, n, t', hi, h => by
  simp only [Env.fieldAt, Option.some.injEq, Prod.mk.injEq] at h
  obtain ⟨rfl, rfl⟩ := h
  simp only [Env.intSt, List.all_cons, Bool.and_eq_true] at hi
  refine ⟨rfl, ?_⟩
  have := hi.1
  split at this
  ·exact ⟨_, ‹_›⟩
  ·cases this
 | t :: fs, i + 1, n, t', hi, h => by
  simp only [Env.fieldAt, Option.bind_eq_some_iff, Option.map_eq_some_iff, Prod.mk.injEq] at h
  obtain ⟨m, hm, ⟨q1, q2⟩, hq, rfl, rfl⟩ := h
  simp only [Env.intSt, List.all_cons, Bool.and_eq_true] at hi
  obtain ⟨rfl, hk⟩ := yi5 (fs := fs) hi.2 hq
  refine ⟨?_, hk⟩
  have := hi.1
  split at this
  ·rename_i k hk
   simp only [Env.sz, hk, Option.map_some, Option.some.injEq] at hm
   simp [Ty.sz] at hm
   simp only at hm ⊢
   omega
  ·cases this
theorem w73 (hE : EOk P E) {t : TypeId} {fs : List Nat} (hk : E.kd? t = some (.st fs)) (hi : E.intSt fs = true) {l l' : List LV} {b : Bool} (hl : l.length = fs.length) (he : wn6 l l' = some b)
  {I : Nat -> Prop} {h : Hv} {xs ys : Array Value} (hx : LsRd w I h l xs.toList) (hy : LsRd w I h l' ys.toList) (op : BinOp) (x y : Operand) :
  (∀ w2, (eqGuard op t x y (.agg xs) (.agg ys)).run P w2 = .ok () w2) /\ (∀ w2, (Go.binOp .eql t (.agg xs) (.agg ys)).run P w2 = .ok (.bool b) w2) /\ ∀ w2, (Go.binOp .neq t (.agg xs) (.agg ys)).run P w2 = .ok (.bool (!b)) w2 := by
 obtain ⟨ti, ht, hkd⟩ := ze3 hk
 obtain ⟨q1, q2, q3⟩ := (hE.te t ti ht).eqs fs hkd hi
 obtain ⟨d, hd, _, hm⟩ := (hE.te t ti ht).und
 rw [hkd] at hm
 obtain ⟨_, fields, rfl, hsz, hall⟩ := hm
 have hfo : P.fieldsOf t = fields := by simp [Program.fieldsOf, hd]
 obtain ⟨e1, e2⟩ := w65 he
 obtain ⟨g1, g2, g3⟩ := ww9 he hx hy
 have key : ∀ w2, (Op.equalIn 10000 t (.agg xs) (.agg ys)).run P w2 = .ok b w2 := fun w2 => by
  rw [run_equalIn_struct w2 9999 t xs ys (by rw [hfo]; exact hd) q1, e2]
  refine y9z 9998 xs ys w2 _ _ (by rw [hfo, e1, hl, Array.length_toList, hsz]) fun i f b hf hb => ⟨q3 f (List.mem_of_getElem? hf), ?_⟩
  rw [hfo, Array.getElem?_toList] at hf
  obtain ⟨t', n, p1, p2, p3, p4, _⟩ := hall i f hf
  obtain ⟨rfl, kk, p5⟩ := yi5 hi p2
  obtain ⟨k, m, n', c1, c2, rfl⟩ := g3 _ b hb
  rw [Array.getElem?_toList] at c1 c2
  have part1 : ∀ {C : Array Value} {v : Value}, C[n]? = some v -> cell1 v = true -> ∀ w2, (part f.type C f.offset).run P w2 = .ok v w2 := by
   intro C v hc h1 w2
   obtain ⟨hlt, rfl⟩ := Array.getElem?_eq_some_iff.1 hc
   have et : (C.toList.drop n).take 1 = [C[n]] := by
    rw [List.take_one, List.head?_drop]; simp [hlt]
   obtain ⟨z, z1, z2, z3⟩ := ye1 (w := w2) hE (t := t') (u := .int kk) p5 (C := C) (off := n) (by simp only [Ty.sz]; omega)
    (by intro c hc; simp only [Ty.sz] at hc; rw [et] at hc; simp only [List.mem_singleton] at hc; rw [hc]; exact h1)
   rw [p3, p4, z1]
   simp only [Ty.sz] at z2; rw [et] at z2
   simp only [Ty.agg, Bool.false_eq_true, if_false] at z3
   have : z.cells.toList = [z] := by cases z <;> first | rfl | cases z3
   rw [this] at z2
   simp only [List.cons.injEq, and_true] at z2
   rw [z2]
  refine ⟨_, _, part1 c1 rfl, part1 c2 rfl, fun d w3 => ?_⟩
  rw [p3]
  exact run_equalIn_int w3 d t' k kk m n' (wk6 hE p5)
 refine ⟨fun w2 => run_eqGuard_agg w2 op t x y xs ys q2, fun w2 => ?_, fun w2 => ?_⟩
 ·rw [run_eql_struct, key]; rfl
 ·rw [run_neq_struct, key]; rfl
theorem yv9 {w : World} {I : Nat -> Prop} {k : IntKind} : ∀ {xs : List Int} {cs : List Value}, ArRd (Rd w I (.int k)) xs cs -> cs = xs.map (Value.int k)
 | [], cs, h => h
 | x :: xs, cs, ⟨c1, c2, e, r, h⟩ => by
  have r : c1 = [Value.int k x] := r
  rw [e, r, yv9 h]; rfl
theorem w48 (hE : EOk P E) {t e n : Nat} {k : IntKind} (hk : E.kd? t = some (.ar n e)) (he : E.ty? e = some (.int k)) {xs ys : List Int} {C D : Array Value} (hC : C.toList = xs.map (Value.int k)) (hD : D.toList = ys.map (Value.int k))
  (lx : xs.length = n) (ly : ys.length = n) (d d' : Nat) (hd : d = d' + 1) (w : World) : (Op.equalIn (d + 1) t (.agg C) (.agg D)).run P w = .ok (xs == ys) w := by
 have hu := yu1 hE hk
 have hs : E.sz e = some 1 := by simp [Env.sz, he, Ty.sz]
 have part1 : ∀ {C : Array Value} {xs : List Int} (_ : C.toList = xs.map (Value.int k)) (i : Nat) (hi : i < xs.length) (w : World), (part e C (i * 1)).run P w = .ok (.int k xs[i]) w := by
  intro C xs hC i hi w
  have hlen : C.size = xs.length := by rw [<- Array.length_toList, hC, List.length_map]
  have et : (C.toList.drop i).take 1 = [Value.int k xs[i]] := by
   rw [List.take_one, List.head?_drop, hC, List.getElem?_map, List.getElem?_eq_getElem hi]; rfl
  obtain ⟨z, z1, z2, z3⟩ := ye1 (w := w) hE (t := e) (u := .int k) he (C := C) (off := i * 1) (by simp only [Ty.sz]; omega)
   (by intro c hc; simp only [Ty.sz, Nat.mul_one] at hc; rw [et] at hc; simp only [List.mem_singleton] at hc; rw [hc]; rfl)
  rw [z1]
  simp only [Ty.sz, Nat.mul_one] at z2; rw [et] at z2
  simp only [Ty.agg, Bool.false_eq_true, if_false] at z3
  have : z.cells.toList = [z] := by cases z <;> first | rfl | cases z3
  rw [this] at z2
  simp only [List.cons.injEq, and_true] at z2
  rw [z2]
 simp only [Op.equalIn, Sem.run_bind, z2q hu, Result.andThen_ok, zg6 hE hs]
 rw [Std.Legacy.Range.forIn_eq_forIn_range']
 simp only [Std.Legacy.Range.size, Nat.sub_zero, Nat.add_sub_cancel, Nat.div_one]
 have heq : ∀ (a b : Int) (w : World), (Op.equalIn d e (.int k a) (.int k b)).run P w = .ok (a == b) w := fun a b w => by rw [hd]; exact run_equalIn_int w d' e k k a b (wk6 hE he)
 have key : ∀ (m s : Nat) (w : World), s + m = n -> ((forIn (m := Sem) (List.range' s m 1) ((none, ()) : Option Bool × PUnit) fun i r => do
     let a <- part e C (i * 1)
     let b <- part e D (i * 1)
     let x <- Op.equalIn d e a b
     if (!x) = true then pure (ForInStep.done (some false, ())) else pure (ForInStep.yield (none, ()))).run P w) = .ok (if xs.drop s = ys.drop s then (none, ()) else (some false, ())) w := by
  intro m
  induction m with
  | zero =>
   intro s w h
   rw [List.drop_of_length_le (by omega), List.drop_of_length_le (by omega)]
   simp
  | succ m ih =>
   intro s w h
   have h1 : s < xs.length := by omega
   have h2 : s < ys.length := by omega
   rw [List.range'_succ, List.forIn_cons]
   simp only [Sem.run_bind, part1 hC s h1, part1 hD s h2, Result.andThen_ok, heq]
   rw [List.drop_eq_getElem_cons h1, List.drop_eq_getElem_cons h2]
   by_cases e : xs[s] = ys[s]
   ·simp only [e, beq_self_eq_true, Bool.not_true, Bool.false_eq_true, if_false, Sem.run_pure, Result.andThen_ok, List.cons.injEq, true_and]
    exact ih (s + 1) w (by omega)
   ·have e' : (xs[s] == ys[s]) = false := by simpa using e
    rw [if_neg (fun h => e (List.cons.inj h).1)]
    simp [e']
 have := key n 0 w (by omega)
 rw [List.drop_zero, List.drop_zero] at this
 rw [this]
 by_cases h : xs = ys
 ·rw [if_pos h]; simp [h]
 ·rw [if_neg h]; simp [h]
theorem w2g (hE : EOk P E) {t e n : Nat} {k : IntKind} (hk : E.kd? t = some (.ar n e)) (he : E.ty? e = some (.int k)) {xs ys : List Int} {I : Nat -> Prop} {h : Hv} {C D : Array Value}
  (hx : LsRd w I h [.val (.arr n (.int k)) xs] C.toList) (hy : LsRd w I h [.val (.arr n (.int k)) ys] D.toList) (op : BinOp) (x y : Operand) :
  (∀ w2, (eqGuard op t x y (.agg C) (.agg D)).run P w2 = .ok () w2) /\ (∀ w2, (Go.binOp .eql t (.agg C) (.agg D)).run P w2 = .ok (.bool (xs == ys)) w2) /\ ∀ w2, (Go.binOp .neq t (.agg C) (.agg D)).run P w2 = .ok (.bool (!(xs == ys))) w2 := by
 obtain ⟨ti, ht, hkd⟩ := ze3 hk
 have q := (hE.te t ti ht).eqa n e k hkd he
 obtain ⟨lx, hx⟩ := LsRd.of_one hx
 obtain ⟨ly, hy⟩ := LsRd.of_one hy
 have key : ∀ w2, (Op.equalIn 10000 t (.agg C) (.agg D)).run P w2 = .ok (xs == ys) w2 := fun w2 => w48 hE hk he (yv9 hx) (yv9 hy) lx ly 9999 9998 rfl w2
 refine ⟨fun w2 => run_eqGuard_agg w2 op t x y C D q, fun w2 => ?_, fun w2 => ?_⟩
 ·rw [run_eql_struct, key]; rfl
 ·rw [run_neq_struct, key]; rfl
theorem z5x {op : BinOp} {t : TypeId} {x y : Operand} {yt : TypeId} (ho : o.op = .binOp op t x y yt) {z : Value} {w' : World}
  (h1 : (eqGuard op t x y (a.eval x) (a.eval y)).run P w = .ok () w)
  (h : (Go.binOp op t (a.eval x) (a.eval y)).run P w = .ok z w') : (execOp a.eval o).run P w = .ok (.value z) w' := by
 unfold execOp
 simp only [ho, h1, Sem.run_bind, Result.andThen_ok, h, Sem.run_pure]
theorem w3v (hE : EOk P E) (k : Rel Pr w0 stk s a.tmps w G) {op : BinOp} {t : TypeId} {x y : Operand} {yt : TypeId} (ho : o.op = .binOp op t x y yt)
  (h : w9t E s op t x y (fun v => K v s) = some r) : o.wp P a w (zb2 Pr w0 stk o a K r) Q := by
 have kx := k.ev x
 have ky := k.ev y
 unfold w9t at h
 split at h
 ·rename_i k1 n1 k2 n2 e1 e2
  rw [e1] at kx; rw [e2] at ky
  have vx := z4x kx
  have vy := z4x ky
  have key : ∀ {z : Value} {v : AV}, (Go.binOp op t (.int k1 n1) (.int k2 n2)).run P w = .ok z w -> ARd w G.I G.h v z -> K v s = some r -> o.wp P a w (zb2 Pr w0 stk o a K r) Q :=
   fun h1 h2 h3 => z0r k (z41 ho (by rw [vx]; intro e; cases e) (by rw [vx]; intro cs e; cases e) (by rw [vx, vy]; exact h1)) h2 h3
  split at h
  ·split at h
   ·cases h
   ·rename_i hb
    exact key (z := .int k1 _) (by simp [Go.binOp, Op.shift, hb]) zk4 h
  ·split at h
   ·cases h
   ·rename_i hb
    exact key (z := .int k1 _) (by simp [Go.binOp, Op.shift, hb]) zk4 h
  ·rename_i hs hs'
   split at h
   ·rename_i e
    subst e
    obtain ⟨z, v, h1, h2, h3⟩ := w1n (K := fun v => K v s) (fun e => hs e) (fun e => hs' e) h t w G.I G.h
    exact key (h1 w) h2 h3
   ·cases h
 ·rename_i b1' b2' e1 e2
  rw [e1] at kx; rw [e2] at ky
  have vx := y14 kx
  have vy := y14 ky
  obtain ⟨z, v, h1, h2, h3⟩ := w2p (P := P) (K := fun v => K v s) h t w G.I G.h
  exact z0r k (z41 ho (by rw [vx]; intro e; cases e) (by rw [vx]; intro cs e; cases e) (by rw [vx, vy]; exact h1 w)) h2 h3
 ·rename_i b1' b2' e1 e2
  rw [e1] at kx; rw [e2] at ky
  have vx := zi5 kx
  have vy := zi5 ky
  split at h
  ·rename_i ht
   have hu := w7f hE ht
   split at h
   ·exact z0r k (z41 ho (by rw [vx]; intro e; cases e) (by rw [vx]; intro cs e; cases e) (by rw [vx, vy]; exact (yd3 hu).1)) za9 h
   ·exact z0r k (z41 ho (by rw [vx]; intro e; cases e) (by rw [vx]; intro cs e; cases e) (by rw [vx, vy]; exact (yd3 hu).2)) za9 h
   ·cases h
  ·cases h
 ·rename_i u v _ _ _ e1 e2
  rw [e1] at kx
  split at h
  ·cases h
  ·rename_i ti ht
   split at h
   ·rename_i hc
    split at h
    ·rename_i hn
     obtain ⟨h1, h2, h3, h4⟩ := y7y hE k ht hn hc kx.2 w
     exact z0r k (z41 ho h3 h4 h1) za9 h
    ·rename_i hn
     obtain ⟨h1, h2, h3, h4⟩ := y7y hE k ht hn hc kx.2 w
     exact z0r k (z41 ho h3 h4 h2) za9 h
    ·cases h
   ·cases h
 ·rename_i n kk xs n' kk' ys e1 e2
  rw [e1] at kx; rw [e2] at ky
  obtain ⟨C, vx, hx⟩ := kx
  obtain ⟨D, vy, hy⟩ := ky
  split at h
  ·rename_i m e hk
   split at h
   ·rename_i hc
    obtain ⟨rfl, rfl, rfl, he⟩ := hc
    obtain ⟨g1, g2, g3⟩ := w2g hE hk he hx hy op x y
    split at h
    ·exact z0r k (z5x ho (by rw [vx, vy]; exact g1 w) (by rw [vx, vy]; exact g2 w)) za9 h
    ·exact z0r k (z5x ho (by rw [vx, vy]; exact g1 w) (by rw [vx, vy]; exact g3 w)) za9 h
    ·cases h
   ·cases h
  ·cases h
 ·rename_i l l' _ e1 e2
  rw [e1] at kx; rw [e2] at ky
  obtain ⟨xs, vx, hx⟩ := kx
  obtain ⟨ys, vy, hy⟩ := ky
  split at h
  ·rename_i fs hk
   split at h
   ·rename_i hi
    split at h
    ·rename_i hl
     split at h
     ·rename_i b he
      obtain ⟨g1, g2, g3⟩ := w73 hE hk hi hl he hx hy op x y
      split at h
      ·exact z0r k (z5x ho (by rw [vx, vy]; exact g1 w) (by rw [vx, vy]; exact g2 w)) za9 h
      ·exact z0r k (z5x ho (by rw [vx, vy]; exact g1 w) (by rw [vx, vy]; exact g3 w)) za9 h
      ·cases h
     ·cases h
    ·cases h
   ·cases h
  ·cases h
 ·cases h
end
end Vm
/- One operation: soundness. -/
namespace Vm
open Go
def z7h (P : Program) (f : FuncId) : Bool :=
 match P.funcs[f]? with
 | some fn => fn.body.isSome && !(fn.name == "runtime.NumGoroutine")
 | none => false
def z6j (P : Program) (E : Env) : Prop := (∀ f c, look f E.spec = some c -> z7h P f = true /\ c.holds P f) /\ ∀ f c, look f E.spec2 = some c -> z7h P f = true /\ c.holds P f
section
variable {ρ : Type} {P : Program} {E : Env} {Pr : Nat -> Prop} {w0 : St} {w w' : World} {stk : List (Array Value)} {s : MS} {a : Act} {G : Gh} {o : Oper} {Q : Exit -> Act -> World -> Prop} {K : AV -> MS -> Option ρ} {r : ρ} {tm : Array Value}
def y0p (P : Program) (Pr : Nat -> Prop) (w0 : St) (inl : Inl ρ) : Prop :=
 ∀ (f : FuncId) (avs : List AV) (s : MS) (K : AV -> MS -> Option ρ) (r : ρ) (stk : List (Array Value)) (tm : Array Value) (w : World) (G : Gh) (vs : Array Value), inl f avs s K = some r -> Rel Pr w0 stk s tm w G ->
  avs.length = vs.size -> (∀ (i : Nat) (u : AV) (v : Value), avs[i]? = some u -> vs[i]? = some v -> ARd w G.I G.h u v) -> z7h P f = true /\ Calls P f vs w (After Pr w0 stk tm K r)
theorem w7h {f : FuncId} {args : Array Value} (hf : z7h P f = true) {d : Deferred} (c : Call) (ho : o.op = .call c) (hd : (resolve a.eval c o.type).run P w = .ok d w) {captured : Array Value} {as : Array Value}
  (ht : d.target = .fn (.func f) captured) (ha : d.args = as) (hargs : args = as ++ captured) (h : Calls P f args w (After Pr w0 stk a.tmps K r)) : o.wp P a w (zb2 Pr w0 stk o a K r) Q := by
 have hrun : (execOp a.eval o).run P w = .ok (.enter f args) w := by
  unfold execOp
  simp only [ho, Sem.run_bind, hd, Result.andThen_ok, invoke, ht, ha]
  unfold z7h at hf
  unfold callFunc
  split at hf
  ·rename_i fn hfn
   simp only [Bool.and_eq_true, Bool.not_eq_true'] at hf
   obtain ⟨h1, h2⟩ := hf
   have h2' : ¬ (fn.name = "runtime.NumGoroutine") := by simpa using h2
   have h1' : ¬ (fn.body = none) := by cases hb : fn.body with | none => simp [hb] at h1 | some c => simp
   simp [program, Sem.run, hfn, h2', h1', hargs]
  ·cases hf
 unfold Oper.wp
 rw [hrun, Oper.upon_enter]
 refine h.mono fun e w' he => ?_
 cases e with
 | returned v =>
  obtain ⟨av, s', G', h1, h2, h3⟩ := he
  exact ⟨av, s', v, G', rfl, h1, h2, h3⟩
 | panicked _ => exact he.elim
 | outgrown => exact he.elim
theorem y6y (hS : z6j P E) (hP : ∀ b, Pr b -> b < w0.heap.size) {inl : Inl ρ} (hI : y0p P Pr w0 inl) (k : Rel Pr w0 stk s tm w G) {still : Bool} {d : Option Nat} {f : FuncId} {avs : List AV} {vs : Array Value}
  (hl : avs.length = vs.size) (hr : ∀ (i : Nat) (u : AV) (v : Value), avs[i]? = some u -> vs[i]? = some v -> ARd w G.I G.h u v) (h : y2j E inl s still d f avs K = some r) :
  z7h P f = true /\ Calls P f vs w (After Pr w0 stk tm K r) := by
 unfold y2j at h
 split at h
 ·rename_i c hc
  obtain ⟨h1, h2⟩ := hS.1 f c hc
  split at h
  ·rename_i c2 hc2
   split at h
   ·exact ⟨h1, zx3 hP k h2 hl hr h⟩
   ·exact ⟨h1, zx3 hP k (hS.2 f c2 hc2).2 hl hr h⟩
  ·exact ⟨h1, zx3 hP k h2 hl hr h⟩
 ·split at h
  ·cases h
  ·exact hI f avs s K r stk tm w G vs h k hl hr
theorem w12 (hS : z6j P E) (hP : ∀ b, Pr b -> b < w0.heap.size) {inl : Inl ρ} (k : Rel Pr w0 stk s tm w G) {still : Bool} {d : Option Nat} {f : FuncId} {c : Spec} (hc : look f E.spec = some c) {avs : List AV} {vs : Array Value}
  (hl : avs.length = vs.size) (hr : ∀ (i : Nat) (u : AV) (v : Value), avs[i]? = some u -> vs[i]? = some v -> ARd w G.I G.h u v) (h : y2j E inl s still d f avs K = some r) :
  z7h P f = true /\ Calls P f vs w (fun e w' => After Pr w0 stk tm K r e w' /\ Grow w w') := by
 unfold y2j at h
 rw [hc] at h
 simp only at h
 obtain ⟨h1, h2⟩ := hS.1 f c hc
 split at h
 ·rename_i c2 hc2
  split at h
  ·exact ⟨h1, zo2 hP k h2 hl hr h⟩
  ·exact ⟨h1, zo2 hP k (hS.2 f c2 hc2).2 hl hr h⟩
 ·exact ⟨h1, zo2 hP k h2 hl hr h⟩
theorem wc5 (k : Rel Pr w0 stk s a.tmps w G) (args : Array Operand) : (args.toList.map s.ev).length = (args.map a.eval).size /\
  ∀ (i : Nat) (u : AV) (v : Value), (args.toList.map s.ev)[i]? = some u -> (args.map a.eval)[i]? = some v -> ARd w G.I G.h u v := by
 refine ⟨by simp, fun i u v hu hv => ?_⟩
 rw [List.getElem?_map, Array.getElem?_toList] at hu
 rw [Array.getElem?_map] at hv
 cases hx : args[i]? with
 | none => simp [hx] at hu
 | some x => simp only [hx, Option.map_some, Option.some.injEq] at hu hv; subst hu; subst hv; exact k.ev x
theorem w5i (hS : z6j P E) (hP : ∀ b, Pr b -> b < w0.heap.size) {inl : Inl ρ} (hI : y0p P Pr w0 inl) (k : Rel Pr w0 stk s a.tmps w G) {still : Bool} {c : Call} {f : Operand} (ho : o.op = .call c) (hc : c.callee = .value f)
  (h : (match s.ev f with
    | .one (.func g) => y2j E inl s still o.dst g (c.args.toList.map s.ev) K
    | .one (.clos id) => match s.obj id with
      | some (.clos g caps) => y2j E inl s still o.dst g (c.args.toList.map s.ev ++ caps.map .one) K
      | _ => none
    | _ => none) = some r) : o.wp P a w (zb2 Pr w0 stk o a K r) Q := by
 obtain ⟨hl, hr⟩ := wc5 k c.args
 split at h
 ·rename_i g hg
  have kf : ARd w G.I G.h (.one (.func g)) (a.eval f) := hg ▸ k.ev f
  have hf : a.eval f = .func (.func g) #[] #[] := by have := kf.2; simpa [LRd] using this
  obtain ⟨h1, h2⟩ := y6y hS hP hI k hl hr h
  refine w7h h1 (d := { target := .fn (.func g) #[], args := #[] ++ c.args.map a.eval }) c ho ?_ rfl rfl ?_ h2
  ·unfold resolve
   simp only [hc, hf, Deferred.ofValue, Sem.run_pure]
  ·simp
 ·rename_i id hg
  split at h
  ·rename_i g caps hob
   have kf : ARd w G.I G.h (.one (.clos id)) (a.eval f) := hg ▸ k.ev f
   obtain ⟨_, f', cs, hid, hf⟩ := kf
   simp only [List.cons.injEq, and_true] at hf
   obtain ⟨cs1, k1, k2, k3, k4⟩ := k.ob id _ hob
   rw [hid] at k1
   cases k1
   have hl' : (c.args.toList.map s.ev ++ caps.map AV.one).length = (c.args.map a.eval ++ cs).size := by simp [k3]
   obtain ⟨h1, h2⟩ := y6y hS hP hI k (vs := c.args.map a.eval ++ cs) hl' (fun i u v hu hv => by
     by_cases hi : i < c.args.size
     · rw [List.getElem?_append_left (by simpa using hi)] at hu
       rw [Array.getElem?_append_left (by simpa using hi)] at hv
       exact hr i u v hu hv
     · rw [List.getElem?_append_right (by simp; omega)] at hu
       rw [Array.getElem?_append_right (by simp; omega)] at hv
       rw [List.getElem?_map] at hu
       simp only [List.length_map, Array.length_toList, Array.size_map] at hu hv
       cases hx : caps[i - c.args.size]? with
       | none => simp [hx] at hu
       | some q =>
         simp only [hx, Option.map_some, Option.some.injEq] at hu
         subst hu
         exact k4 _ q v hx hv) h
   refine w7h h1 (d := { target := .fn (.func g) cs, args := #[] ++ c.args.map a.eval }) c ho ?_ rfl rfl ?_ h2
   ·unfold resolve
    simp only [hc, hf, Deferred.ofValue, Sem.run_pure]
   ·simp
  ·cases h
 ·cases h
theorem zz6 (hE : EOk P E) (hS : z6j P E) (hP : ∀ b, Pr b -> b < w0.heap.size) {inl : Inl ρ} (hI : y0p P Pr w0 inl) (k : Rel Pr w0 stk s a.tmps w G) {still : Bool} (h : w96 E inl still o s K = some r) :
  o.wp P a w (zb2 Pr w0 stk o a K r) Q := by
 unfold w96 at h
 split at h
 ·rename_i x ho; exact ys9 k (.inl ho) h
 ·rename_i x ho; exact ys9 k (.inr ho) h
 ·rename_i c x y ho; exact w8p k ho h
 ·rename_i t ho; exact w3r hE hP k ho h
 ·rename_i t x ho; exact w9v hE hP k ho h
 ·rename_i t parts ho; exact w3x hE k ho h
 ·rename_i t len parts ho; exact yo3 hE hP k ho h
 ·rename_i t x ho; exact wo9 hE k ho h
 ·rename_i t x y ho; exact wj8 hE k ho h
 ·rename_i x ho; exact yq0 k ho h
 ·rename_i op t x y yt ho; exact w3v hE k ho h
 ·rename_i op t x ho; exact w94 k ho h
 ·rename_i src dst x ho; exact yw8 hE hP k ho h
 ·rename_i f first caps ho; exact yp9 k ho h
 ·rename_i t l c ho; exact yk2 hE hP k ho h
 ·rename_i t x lo hi ho; exact w5c hE k ho h
 ·rename_i t x i ho; exact yi4 hE k ho h
 ·rename_i t x i ho; exact w4e hE k ho h
 ·rename_i t x i ho; exact yj1 hE k ho h
 ·rename_i t x i ho; exact w4h hE k ho h
 ·rename_i x i ho; exact yx3 k ho h
 ·rename_i c ho
  split at h
  ·rename_i b hc
   unfold builtin at h
   split at h
   ·rename_i x t ts hx ht; exact wf0 hE k ho hc hx ht h
   ·rename_i x y t t' ts hx ht; exact w0w hE hP k ho hc hx ht h
   ·rename_i x t ts hx ht; exact w9y hE k ho hc hx ht h
   ·rename_i x y t ts hx ht
    split at h
    ·rename_i u v e hu hv hk
     split at h
     ·rename_i z hz; exact w80 hE k ho hc hx ht hk hz hu hv h
     ·cases h
    ·cases h
   ·rename_i x y hx; exact w6n (m := true) k ho hc hx h
   ·rename_i x y hx; exact w6n (m := false) k ho hc hx h
   ·cases h
  ·rename_i f hc; exact w5i hS hP hI k ho hc h
  ·cases h
 ·cases h
end
end Vm
/- Regions whose order is the text's: soundness. -/
namespace Vm
open Go
section
variable {ρ : Type} {P : Program} {E : Env} {Pr : Nat -> Prop} {w0 : St} {w w' : World} {stk : List (Array Value)} {s : MS} {a : Act} {G : Gh} {o : Oper} {Q : Exit -> Act -> World -> Prop} {K : AV -> MS -> Option ρ} {r : ρ} {tm : Array Value}
theorem yz9 {next next' : Act -> World -> Prop} (h : o.wp P a w next Q) (hn : ∀ a w, next a w -> next' a w) : o.wp P a w next' Q := by
 unfold Oper.wp at h ⊢
 generalize (execOp a.eval o).run P w = x at h ⊢
 unfold Oper.upon at h ⊢
 split at h
 all_goals first
  | exact hn _ _ h
  | exact h
  | (refine Calls.mono h fun e w' he => ?_
     cases e <;> first | exact hn _ _ he | exact he)
  | exact Rows.mono h fun v w' he => hn _ _ he
def Same (D : Nat -> Prop) (a a' : Act) : Prop := a'.tmps.size = a.tmps.size /\ ∀ t, ¬ D t -> a'.tmps.getD t undef = a.tmps.getD t undef
theorem Same.refl (D : Nat -> Prop) (a : Act) : Same D a a := ⟨rfl, fun _ _ => rfl⟩
theorem Same.trans {D : Nat -> Prop} {a b c : Act} (h : Same D a b) (k : Same D b c) : Same D a c := ⟨k.1.trans h.1, fun t ht => (k.2 t ht).trans (h.2 t ht)⟩
theorem Same.mono {D D' : Nat -> Prop} {a b : Act} (hD : ∀ t, D t -> D' t) (h : Same D a b) : Same D' a b := ⟨h.1, fun t ht => h.2 t fun hd => ht (hD t hd)⟩
def Then {ρ : Type} (Pr : Nat -> Prop) (w0 : St) (stk : List (Array Value)) (D : Nat -> Prop) (a : Act) (K : MS -> Option ρ) (r : ρ) (a' : Act) (w' : World) : Prop :=
 ∃ s' G', Rel Pr w0 stk s' a'.tmps w' G' /\ Same D a a' /\ a'.defers = a.defers /\ K s' = some r
theorem put_defers (a : Act) (d : Option Nat) (v : Value) : (a.put d v).defers = a.defers := by
 cases d <;> simp [Act.put]
theorem zx0 {D : Nat -> Prop} (a : Act) {d : Option Nat} (hd : ∀ t, d = some t -> D t) (v : Value) : Same D a (a.put d v) := by
 cases d with
 | none => exact Same.refl _ _
 | some d =>
  refine ⟨by simp [Act.put], fun t ht => ?_⟩
  have : t ≠ d := by rintro rfl; exact ht (hd _ rfl)
  exact Vm.getD_set_ne _ _ _ _ this
theorem Rel.putO (k : Rel Pr w0 stk s a.tmps w G) {d : Option Nat} {v : AV} {x : Value} (hd : ∀ t, d = some t -> t < a.tmps.size) (hx : ARd w G.I G.h v x) : Rel Pr w0 stk (s.put d v) (a.put d x).tmps w G := by
 cases d with
 | none => exact k
 | some t => exact k.put (hd t rfl) hx
theorem y5d (b : Bool) : (undef : Value) ≠ .bool b := by
 cases b <;> (unfold undef; simp)
theorem yy9 {w : World} {I : Nat -> Prop} {h : Hv} : ARd w I h (.tup []) undef := ⟨[], rfl, rfl, fun i p y hp _ => by simp at hp⟩
theorem yl8 (k : Rel Pr w0 stk s a.tmps w G) {ops : Array Oper} {j d : Nat} {want : Bool} (hg : o.guard = some (j, want)) (hj : (ops.toList[j]?).bind (·.dst) = some d) (hb : s.get d = .tup []) :
  Region.wanted o (yielded ops a.tmps) = false := by
 have kb := k.get d
 rw [hb] at kb
 obtain ⟨vs, e, hl, _⟩ := kb
 have hvs : vs = [] := List.length_eq_zero_iff.1 hl
 subst hvs
 have hy : yielded ops a.tmps j = none := by
  unfold yielded
  rw [Array.getElem?_toList] at hj
  rw [hj]
  cases ht : a.tmps[d]? with
  | none => simp [ht]
  | some x =>
   have : a.tmps.getD d undef = x := by rw [Array.getD_eq_getD_getElem?, ht]; rfl
   rw [this] at e
   subst e
   simp [ht]
 simp [Region.wanted, hg, hy]
theorem w49 (hE : EOk P E) (hS : z6j P E) (hP : ∀ b, Pr b -> b < w0.heap.size) {inl : Inl ρ} (hI : y0p P Pr w0 inl) {ops : Array Oper} {K : MS -> Option ρ} {D : Nat -> Prop} (k : Rel Pr w0 stk s a.tmps w G)
  (hd : ∀ t, o.dst = some t -> t < a.tmps.size) (hD : ∀ t, o.dst = some t -> D t) (h : yc3 E inl ops.toList o s K = some r) :
  (Region.wanted o (yielded ops a.tmps) = true -> o.wp P a w (Then Pr w0 stk D a K r) Q) /\ (Region.wanted o (yielded ops a.tmps) = false -> Then Pr w0 stk D a K r (a.put o.dst undef) w) := by
 have go : ∀ {s : MS} {still : Bool}, Rel Pr w0 stk s a.tmps w G -> w96 E inl still o s (fun v s => K (s.put o.dst v)) = some r -> o.wp P a w (Then Pr w0 stk D a K r) Q := by
  intro s still k h
  refine yz9 (zz6 hE hS hP hI k h) fun a' w' ⟨v, s', x, G', e, k', hx, hK⟩ => ?_
  subst e
  exact ⟨s'.put o.dst v, G', k'.putO (a := a) hd hx, zx0 a hD _, put_defers .., hK⟩
 unfold yc3 at h
 split at h
 ·rename_i hg
  exact ⟨fun _ => go k h, fun hw => by simp [Region.wanted, hg] at hw⟩
 ·rename_i j want hg
  split at h
  ·rename_i d hj
   split at h
   ·rename_i b hb
    have kb := k.get d
    rw [hb] at kb
    have hv : a.tmps.getD d undef = .bool b := zi5 kb
    have hy : yielded ops a.tmps j = some b := by
     have hlt : d < a.tmps.size := by
      rcases Nat.lt_or_ge d a.tmps.size with h | h
      ·exact h
      ·rw [Array.getD, dif_neg (by omega)] at hv; exact absurd hv (y5d b)
     unfold yielded
     rw [Array.getElem?_toList] at hj
     rw [hj]
     have : a.tmps[d]? = some (.bool b) := by
      rw [Array.getElem?_eq_getElem hlt]; rw [Array.getD, dif_pos hlt] at hv; exact congrArg some hv
     simp [this]
    have hwt : Region.wanted o (yielded ops a.tmps) = (some b == some want) := by simp [Region.wanted, hg, hy]
    rw [hwt]
    split at h
    ·rename_i e
     refine ⟨fun _ => go (k.retell (d := d) (v := b1 want) ?_) h, fun hw => by rw [e] at hw; simp at hw⟩
     rw [hv, e]; exact za9
    ·rename_i e
     refine ⟨fun hw => absurd (by simpa using hw) e, fun _ => ?_⟩
     have hbw : b = !want := by
      have e : ¬ (b = want) := e
      cases b <;> cases want <;> first | rfl | exact absurd rfl e
     refine ⟨_, G, (k.retell (d := d) (v := b1 !want) ?_).putO (a := a) hd (x := undef) (v := .tup []) yy9, zx0 a hD _, put_defers .., h⟩
     rw [hv, hbw]; exact za9
   ·rename_i hb
    have hwt := yl8 k hg hj hb
    exact ⟨fun hw => (by rw [hwt] at hw; cases hw), fun _ => ⟨_, G, k.putO (a := a) hd (x := undef) (v := .tup []) yy9, zx0 a hD _, put_defers .., h⟩⟩
   ·cases h
  ·cases h
theorem yh9 (hE : EOk P E) (hS : z6j P E) (hP : ∀ b, Pr b -> b < w0.heap.size) {inl : Inl ρ} (hI : y0p P Pr w0 inl) {ops : Array Oper} {n : Nat} (hd : y4p n ops.toList = true) {D : Nat -> Prop} (hDs : ∀ o, o ∈ ops.toList -> ∀ t, o.dst = some t -> D t) :
  ∀ (l : List Oper) (i : Nat) {s : MS} {a : Act} {w : World} {G : Gh} {K : MS -> Option ρ}, ops.toList.drop i = l -> i <= ops.size -> Rel Pr w0 stk s a.tmps w G -> a.tmps.size = n -> yo6 E inl ops.toList l s K = some r ->
   (∀ a' w', Then Pr w0 stk D a K r a' w' -> Q .normal a' w') -> wpOps P ops Q (List.range' i (ops.size - i)) a w
 | [], i, s, a, w, G, K, hl, hi, k, hn, h, hQ => by
  have : ops.size - i = 0 := by
   have := congrArg List.length hl
   simp at this; omega
  rw [this]
  exact hQ a w ⟨s, G, k, Same.refl _ _, rfl, h⟩
 | o :: l, i, s, a, w, G, K, hl, hi, k, hn, h, hQ => by
  have hlen := congrArg List.length hl
  simp only [List.length_drop, Array.length_toList, List.length_cons] at hlen
  have ho : ops[i]? = some o := by
   rw [<- Array.getElem?_toList, <- Nat.add_zero i, <- List.getElem?_drop, hl]; rfl
  have hl' : ops.toList.drop (i + 1) = l := by
   rw [<- List.drop_drop, hl]; rfl
  have hdo : ∀ t, o.dst = some t -> t < a.tmps.size := by
   intro t ht
   unfold y4p at hd
   rw [List.all_eq_true] at hd
   have := hd o (List.mem_of_getElem? (by rw [Array.getElem?_toList]; exact ho))
   rw [ht] at this
   rw [hn]; simpa using this
  have he : ops.size - i = (ops.size - (i + 1)) + 1 := by omega
  rw [he, List.range'_succ]
  have hg := w49 (Q := Q) hE hS hP hI k hdo (hDs o (List.mem_of_getElem? (by rw [Array.getElem?_toList]; exact ho))) h
  have next : ∀ a' w', Then Pr w0 stk D a (fun s => yo6 E inl ops.toList l s K) r a' w' -> wpOps P ops Q (List.range' (i + 1) (ops.size - (i + 1))) a' w' := by
   intro a' w' ⟨s', G', k', hs, hdf, hK⟩
   refine yh9 hE hS hP hI hd hDs l (i + 1) hl' (by omega) k' (hs.1.trans hn) hK fun a'' w'' ⟨s2, G2, k2, hs2, hd2, hK2⟩ => hQ a'' w'' ⟨s2, G2, k2, hs.trans hs2, hd2.trans hdf, hK2⟩
  unfold wpOps
  simp only [ho]
  split
  ·rename_i hw
   exact .inl (yz9 (hg.1 hw) next)
  ·rename_i hw
   exact next _ _ (hg.2 (by simpa using hw))
end
end Vm
/- Code: soundness, given what holds of its y4f and of its regions whose order is drawn. -/
namespace Vm
open Go
def wv2 : Ex -> Exit
 | .normal => .normal
 | .exit i => .exit i
 | .ret => .ret
def CPost {ρ : Type} (Pr : Nat -> Prop) (w0 : St) (stk : List (Array Value)) (D : Nat -> Prop) (a : Act) (K : Ex -> MS -> Option ρ) (r : ρ) : Exit -> Act -> World -> Prop :=
 fun e a' w' => ∃ x : Ex, e = wv2 x /\ Then Pr w0 stk D a (K x) r a' w'
def y9c (P : Program) (E : Env) (L : z1t) (k : Nat) (path : List FuncId) (n : Nat) {ρ : Type} (Pr : Nat -> Prop) (w0 : St) (stk : List (Array Value)) (inl : Inl ρ) (c : Code) : Prop :=
 ∀ (s : MS) (a : Act) (w : World) (G : Gh) (K : Ex -> MS -> Option ρ) (r : ρ), Rel Pr w0 stk s a.tmps w G -> a.tmps.size = n -> code E L k path n inl c s K = some r -> c.wp P (CPost Pr w0 stk (fun t => t ∈ w32 c) a K r) a w
def y0r (ok : Code -> Prop) : Code -> Prop
 | .region id ops true => ok (.region id ops true)
 | .seq a b => y0r ok a /\ y0r ok b
 | .cond _ a b => y0r ok a /\ y0r ok b
 | .block _ c | .scope c => y0r ok c
 | .loop c => ok (.loop c)
 | _ => True
section
variable {ρ : Type} {P : Program} {E : Env} {L : z1t} {k : Nat} {path : List FuncId} {n : Nat} {Pr : Nat -> Prop} {w0 : St} {stk : List (Array Value)} {inl : Inl ρ}
theorem Then.trans {D : Nat -> Prop} {a a' a'' : Act} {w'' : World} {K : MS -> Option ρ} {r : ρ} (h : Then Pr w0 stk D a' K r a'' w'') (hs : Same D a a') (hd : a'.defers = a.defers) : Then Pr w0 stk D a K r a'' w'' := by
 obtain ⟨s', G', h1, h2, h3, h4⟩ := h
 exact ⟨s', G', h1, hs.trans h2, h3.trans hd, h4⟩
theorem Then.mono {D D' : Nat -> Prop} (hD : ∀ t, D t -> D' t) {a a' : Act} {w' : World} {K : MS -> Option ρ} {r : ρ} (h : Then Pr w0 stk D a K r a' w') : Then Pr w0 stk D' a K r a' w' := by
 obtain ⟨s', G', h1, h2, h3, h4⟩ := h
 exact ⟨s', G', h1, h2.mono hD, h3, h4⟩
theorem CPost.mono {D D' : Nat -> Prop} (hD : ∀ t, D t -> D' t) {a a' : Act} {e : Exit} {w' : World} {K : Ex -> MS -> Option ρ} {r : ρ} (h : CPost Pr w0 stk D a K r e a' w') : CPost Pr w0 stk D' a K r e a' w' :=
 let ⟨x, e, h⟩ := h; ⟨x, e, h.mono hD⟩
theorem y8g (hE : EOk P E) (hS : z6j P E) (hP : ∀ b, Pr b -> b < w0.heap.size) (hI : y0p P Pr w0 inl) : ∀ (c : Code), y0r (y9c P E L k path n Pr w0 stk inl) c -> y9c P E L k path n Pr w0 stk inl c := by
 intro c
 induction c with
 | skip => intro _ s a w G K r hr hn h; exact wp_skip ⟨.normal, rfl, s, G, hr, Same.refl _ _, rfl, h⟩
 | label l => intro _ s a w G K r hr hn h; exact wp_label ⟨.normal, rfl, s, G, hr, Same.refl _ _, rfl, h⟩
 | exit id => intro _ s a w G K r hr hn h; exact wp_exit ⟨.exit id, rfl, s, G, hr, Same.refl _ _, rfl, h⟩
 | ret => intro _ s a w G K r hr hn h; exact wp_ret ⟨.ret, rfl, s, G, hr, Same.refl _ _, rfl, h⟩
 | region id ops draw =>
  intro hp s a w G K r hr hn h
  cases draw with
  | true => exact hp s a w G K r hr hn h
  | false =>
   simp only [code] at h
   split at h
   ·rename_i hd
    refine wp_region ?_
    have := yh9 (Q := CPost Pr w0 stk (fun t => t ∈ w32 (.region id ops false)) a K r) hE hS hP hI hd (D := fun t => t ∈ w32 (.region id ops false)) (fun o ho t ht => List.mem_filterMap.2 ⟨o, ho, ht⟩) ops.toList 0 rfl (Nat.zero_le _) hr hn h fun a' w' ht => ⟨.normal, rfl, ht⟩
    rwa [Nat.sub_zero, <- List.range_eq_range'] at this
   ·cases h
 | seq x y ihx ihy =>
  intro hp s a w G K r hr hn h
  simp only [code] at h
  refine wp_seq (wp_mono (ihx hp.1 s a w G _ r hr hn h) fun e a' w' he => ?_)
  obtain ⟨x, rfl, s', G', h1, h2, h3, h4⟩ := he
  cases x with
  | normal =>
   exact wp_mono (ihy hp.2 s' a' w' G' K r h1 (h2.1.trans hn) h4) fun e a'' w'' ⟨x, e1, ht⟩ => ⟨x, e1, (ht.mono fun t ht => List.mem_append_right _ ht).trans (h2.mono fun t ht => List.mem_append_left _ ht) h3⟩
  | exit i => exact ⟨.exit i, rfl, s', G', h1, h2.mono fun t ht => List.mem_append_left _ ht, h3, h4⟩
  | ret => exact ⟨.ret, rfl, s', G', h1, h2.mono fun t ht => List.mem_append_left _ ht, h3, h4⟩
 | cond c x y ihx ihy =>
  intro hp s a w G K r hr hn h
  simp only [code] at h
  split at h
  ·rename_i b hb
   have hv : a.eval c = .bool b := zi5 (hb ▸ hr.ev c)
   refine wp_cond hv ?_
   have hb' : b = true \/ b = false := by cases b <;> simp
   rcases hb' with e | e
   ·rw [if_pos e] at h; rw [if_pos e]; exact wp_mono (ihx hp.1 s a w G K r hr hn h) fun e a' w' hc => hc.mono fun t ht => List.mem_append_left _ ht
   ·have e' : ¬ (b = true) := by rw [e]; simp
    rw [if_neg e'] at h; rw [if_neg e']; exact wp_mono (ihy hp.2 s a w G K r hr hn h) fun e a' w' hc => hc.mono fun t ht => List.mem_append_right _ ht
  ·cases h
 | block id c ih =>
  intro hp s a w G K r hr hn h
  simp only [code] at h
  refine wp_block (wp_mono (ih hp s a w G _ r hr hn h) fun e a' w' he => ?_)
  obtain ⟨x, rfl, s', G', h1, h2, h3, h4⟩ := he
  cases x with
  | normal => exact ⟨.normal, rfl, s', G', h1, h2, h3, h4⟩
  | exit i =>
   simp only [wv2, Exit.inBlock]
   split
   ·rename_i e
    simp only [e, if_true] at h4
    exact ⟨.normal, rfl, s', G', h1, h2, h3, h4⟩
   ·rename_i e
    simp only [e, if_false] at h4
    exact ⟨.exit i, rfl, s', G', h1, h2, h3, h4⟩
  | ret => exact ⟨.ret, rfl, s', G', h1, h2, h3, h4⟩
 | loop c ih => intro hp; exact hp
 | scope c ih =>
  intro hp s a w G K r hr hn h
  simp only [code] at h
  refine wp_scope_straight (wp_mono (ih hp s a w G K r hr hn h) fun e a' w' he => ?_)
  obtain ⟨x, rfl, ht⟩ := he
  cases x <;> exact ⟨_, rfl, ht⟩
 | _ => intro _ s a w G K r hr hn h; simp [code] at h
end
end Vm
/- Results of a function, and calls in place. -/
namespace Vm
open Go
section
variable {ρ : Type} {P : Program} {E : Env} {Pr : Nat -> Prop} {w0 : St} {w w' : World} {stk : List (Array Value)} {s : MS} {a : Act} {G : Gh} {o : Oper} {Q : Exit -> Act -> World -> Prop} {K : AV -> MS -> Option ρ} {r : ρ} {tm : Array Value}
theorem wf3 (k : Rel Pr w0 stk s tm w G) {u : Ty} {p : LV} {l : List LV} {x : Value} (hl : yy2 s u p = some l) (kx : LRd w G.I G.h p [x]) :
  ∃ b off C T fz, x = .pointer (some ⟨b, off, none⟩) /\ w.heap[b]? = some (.cells C T fz) /\ off + u.sz <= C.size /\ LsRd w G.I G.h l ((C.toList.drop off).take u.sz) := by
 unfold yy2 at hl
 split at hl
 ·rename_i id off
  split at hl
  ·rename_i L hob
   obtain ⟨b, h1, h2⟩ := kx
   simp only [List.cons.injEq, and_true] at h2
   obtain ⟨b', C, T, fz, k1, k2, k3, k4, k5⟩ := k.ob id _ hob
   rw [h1] at k1; cases k1
   obtain ⟨p, q, e1, e2, e3⟩ := zz4 hl
   rw [e1] at k5
   obtain ⟨g1, g2⟩ := k5.mid
   rw [e2, e3] at g1 g2
   exact ⟨_, _, _, _, _, h2, k3, (by simpa using g2), g1⟩
  ·cases hl
 ·rename_i id off u' n i
  split at hl
  ·rename_i L hob
   split at hl
   ·rename_i n' v xs rest hd
    split at hl
    ·rename_i hc
     obtain ⟨rfl, rfl, hsz, hag⟩ := hc
     cases hl
     obtain ⟨i0, i1, b, h1, h2⟩ := kx
     simp only [List.cons.injEq, and_true] at h2
     obtain ⟨b', C, T, fz, k1, k2, k3, k4, k5⟩ := k.ob id _ hob
     rw [h1] at k1; cases k1
     obtain ⟨m, _, e1, e2⟩ := za0 hd
     have e1' : L = m ++ ([.val (.arr n' v) xs] ++ rest) := by simpa using e1
     rw [e1'] at k5
     obtain ⟨g1, g2⟩ := k5.mid
     have hcell : cells [LV.val (.arr n' v) xs] = n' * v.sz := by simp [cells, LV.sz, Ty.sz]
     rw [e2, hcell] at g1 g2
     obtain ⟨hlen, g1⟩ := LsRd.of_one g1
     have hi : i.toNat < xs.length := by omega
     have ge := ArRd.at (fun _ _ => Rd.length) g1 (getD_some v.zero hi)
     have hle : (i.toNat + 1) * v.sz <= n' * v.sz := Nat.mul_le_mul_right _ (by omega)
     rw [Nat.add_mul, Nat.one_mul] at hle
     rw [z4i _ _ _ _ _ hle] at ge
     have g2' : off + n' * v.sz <= C.size := by simpa using g2
     exact ⟨_, _, _, _, _, h2, k3, (by rw [<- hsz]; omega), (by rw [<- hsz]; exact LsRd.leaves ge)⟩
    ·cases hl
   ·cases hl
  ·cases hl
 ·rename_i id v i fp
  split at hl
  ·rename_i u' xs hob
   split at hl
   ·rename_i hv
    subst hv
    split at hl
    ·rename_i u2 y hy
     split at hl
     ·rename_i hc
      obtain ⟨hsz, hag⟩ := hc
      cases hl
      obtain ⟨i0, b, n, c, q, v2, h1, h2, h3, h4⟩ := kx
      simp only [List.cons.injEq, and_true] at h4
      rcases k.ob id _ hob with ⟨k1, _⟩ | ⟨b', c', C, T, fz, k1, k2, k3, k4, k5, k6, k7⟩
      ·rw [h1] at k1; cases k1
      ·rw [h1] at k1; cases k1
       have hi : i.toNat < xs.length := by omega
       have ge := k7 _ _ (getD_some u'.zero hi)
       obtain ⟨q', g1, g2, g3⟩ := w51 hy ge
       rw [h3] at g1
       cases g1
       dsimp only at g2 g3 h3
       have hlen := ge.length
       rw [hlen] at g3
       rw [z4i _ _ _ _ _ g3] at g2
       have hle : (i.toNat + 1) * u'.sz <= c * u'.sz := Nat.mul_le_mul_right _ (by omega)
       rw [Nat.add_mul, Nat.one_mul] at hle
       exact ⟨_, _, _, _, _, h4, k4, (by rw [<- hsz]; omega), (by rw [<- hsz]; exact LsRd.leaves g2)⟩
     ·cases hl
    ·cases hl
   ·cases hl
  ·cases hl
 ·rename_i u' y
  split at hl
  ·rename_i hc
   obtain ⟨hsz, hag⟩ := hc
   cases hl
   obtain ⟨A, C, T, fz, h2, hsp, hI, h3, h4, h5⟩ := kx
   simp only [List.cons.injEq, and_true] at h2
   obtain ⟨ab, aoff, asp⟩ := A
   simp only at hsp
   subst hsp
   exact ⟨_, _, _, _, _, h2, h3, (by rw [<- hsz]; exact h4), (by rw [<- hsz]; exact LsRd.leaves h5)⟩
  ·cases hl
 ·rename_i id v i
  split at hl
  ·rename_i u' xs hob
   split at hl
   ·rename_i hc
    obtain ⟨rfl, rfl⟩ := hc
    cases hl
    obtain ⟨i0, b, n, c, R, h1, h2, h3⟩ := kx
    simp only [List.cons.injEq, and_true] at h3
    obtain ⟨hs, C, T, fz, g1, g2, g3, g4, g5, _⟩ := wf8 (k.ob id _ hob) h1
    obtain ⟨A, n', c', e1, e2⟩ := g4 i.toNat (by omega)
    have hz1 : (Ty.slice u').sz = 1 := rfl
    exact ⟨_, _, _, _, _, h3, g1, (by rw [hz1]; omega), (LsRd.one ⟨i0, _, hs, A, n', c', g3 ▸ h1, e1, by rw [hz1, one_cell (by omega), e2]⟩)⟩
   ·cases hl
  ·cases hl
 ·rename_i id v i j
  split at hl
  ·rename_i u' xs sw hob
   split at hl
   ·rename_i hv
    subst hv
    split at hl
    ·rename_i hc
     obtain ⟨hsz, hag⟩ := hc
     cases hl
     obtain ⟨i0, j0, o', hs, b, n, c, h1, h2, h3, h4⟩ := kx
     simp only [List.cons.injEq, and_true] at h4
     obtain ⟨C, T, fz, hi, g1, g2, g3, g5, g4, _⟩ := w4r (k.ob id _ hob) h1 h2 (by omega)
     have hj : j.toNat < (xs.getD i.toNat []).length := by omega
     have ge := g4 _ _ (getD_some u'.zero hj)
     have hle : (j.toNat + 1) * u'.sz <= c * u'.sz := Nat.mul_le_mul_right _ (by omega)
     rw [Nat.add_mul, Nat.one_mul] at hle
     exact ⟨_, _, _, _, _, h4, g2, (by rw [<- hsz]; omega), (by rw [<- hsz]; exact LsRd.leaves ge)⟩
    ·cases hl
   ·cases hl
  ·cases hl
 ·cases hl
theorem w70 (hE : EOk P E) (k : Rel Pr w0 stk s tm w G) : ∀ {rs : List ResultVar} {l : List (Bool × List LV)}, wl3 E s rs = some l ->
  ∃ ys : List Value, (rs.mapM fun | .tmp t => pure (tm.getD t undef) | .cell a t => do loadVar t (<- asAddr (tm.getD a undef)) : Sem (List Value)).run P w = .ok ys w /\ l.length = ys.length /\
   ∀ (i : Nat) (p : Bool × List LV) (y : Value), l[i]? = some p -> ys[i]? = some y -> PartRd w G.I G.h p y
 | [], l, h => by
  simp only [wl3, Option.some.injEq] at h
  subst h
  exact ⟨[], rfl, rfl, by simp⟩
 | .tmp t :: rs, l, h => by
  simp only [wl3, Option.bind_eq_some_iff, Option.map_eq_some_iff] at h
  obtain ⟨p, hp, m, hm, rfl⟩ := h
  obtain ⟨ys, h1, h2, h3⟩ := w70 hE k hm
  have kt := k.get t
  refine ⟨tm.getD t undef :: ys, ?_, by simp [h2], fun i q y hq hy => ?_⟩
  ·simp only [List.mapM_cons, Sem.run_bind, Sem.run_pure, Result.andThen_ok, h1]
  ·cases i with
   | succ i => exact h3 i q y hq hy
   | zero =>
    simp only [List.getElem?_cons_zero, Option.some.injEq] at hq hy
    subst hq; subst hy
    split at hp
    ·rename_i v hv
     cases hp
     rw [hv] at kt
     exact ⟨kt.1, LsRd.one kt.2⟩
    ·rename_i v hv
     cases hp
     rw [hv] at kt
     exact kt
    ·cases hp
 | .cell b t :: rs, l, h => by
  simp only [wl3, Option.bind_eq_some_iff, Option.map_eq_some_iff] at h
  obtain ⟨p, hp, m, hm, rfl⟩ := h
  obtain ⟨ys, h1, h2, h3⟩ := w70 hE k hm
  have kt := k.get b
  split at hp
  ·rename_i v u hv hu
   simp only [Option.map_eq_some_iff] at hp
   obtain ⟨lv, hlv, rfl⟩ := hp
   rw [hv] at kt
   obtain ⟨bk, off, C, T, fz, e1, e2, e3, e4⟩ := wf3 k hlv kt.2
   obtain ⟨z, g1, g2, g3⟩ := zb0 (w := w) hE hu e2 e3 e4.cell1
   refine ⟨z :: ys, ?_, by simp [h2], fun i q y hq hy => ?_⟩
   ·have ha : (asAddr (tm.getD b undef)).run P w = .ok ⟨bk, off, none⟩ w := by rw [e1]; rfl
    simp only [List.mapM_cons, Sem.run_bind, Sem.run_pure, Result.andThen_ok, ha, g1, h1]
   ·cases i with
    | succ i => exact h3 i q y hq hy
    | zero =>
     simp only [List.getElem?_cons_zero, Option.some.injEq] at hq hy
     subst hq; subst hy
     rw [<- g2] at e4
     unfold PartRd
     cases hg : u.agg <;> simp only [hg, if_true, if_false, Bool.false_eq_true] at g3 ⊢
     ·rw [z34 g3] at e4; exact ⟨g3, e4⟩
     ·obtain ⟨cs, rfl⟩ := g3; exact ⟨cs, rfl, e4⟩
  ·cases hp
theorem yl5 {fn : Func} {ys : List Value} (h : (fn.results.toList.mapM fun | .tmp t => pure (tm.getD t undef) | .cell a t => do loadVar t (<- asAddr (tm.getD a undef)) : Sem (List Value)).run P w = .ok ys w) :
  (results fn tm).run P w = .ok (packed ys) w := by
 unfold results
 rw [Array.mapM_eq_mapM_toList]
 simp only [Sem.run_bind, Sem.run_map]
 refine (congrArg (fun q : Result (List Value) => ((q.andThen fun a w' => Result.ok a.toArray w').andThen fun (a : Array Value) w' => Sem.run P (pure (if h : a.size = 1 then a[0] else Value.tuple a)) w')) h).trans ?_
 match ys with
 | [] => rfl
 | [y] => rfl
 | y :: z :: l =>
  simp only [Result.andThen_ok, Sem.run_pure, packed, List.size_toArray, List.length_cons]
  rw [dif_neg (by omega)]
end
end Vm
/- Names of objects exchanged. -/
namespace Vm
open Go
section
variable {Pr : Nat -> Prop} {w0 : St} {w : World} {stk : List (Array Value)} {s : MS} {tm : Array Value} {G : Gh}
def Gh.ren (G : Gh) (a b : Nat) : Gh := { I := G.I, h := fun i => if i = b then G.h a else G.h i, bs := fun i => if i = b then G.bs a else G.bs i }
theorem LRd.ren {a b : Nat} {v : LV} {cs : List Value} (hb : v.has b = false) (k : LRd w G.I G.h v cs) : LRd w G.I (G.ren a b).h (w54 a b v) cs := by
 have key : ∀ i, i ≠ b -> (G.ren a b).h (if i = a then b else i) = G.h i := by
  intro i hi
  by_cases e : i = a
  ·subst e; simp [Gh.ren]
  ·simp [Gh.ren, e, hi]
 have ne : ∀ {i : Nat}, (i == b) = false -> i ≠ b := by intro i h; simpa using h
 cases v with
 | own i =>
  obtain ⟨A, n, c, h1, h2⟩ := k
  exact ⟨A, n, c, by rw [key i (ne hb)]; exact h1, h2⟩
 | pre i m =>
  obtain ⟨A, n, c, h1, h2⟩ := k
  exact ⟨A, n, c, by rw [key i (ne hb)]; exact h1, h2⟩
 | vw i t lo m =>
  obtain ⟨A, n, c, h1, h2⟩ := k
  exact ⟨A, n, c, by rw [key i (ne hb)]; exact h1, h2⟩
 | pbox i o =>
  obtain ⟨b', h1, h2⟩ := k
  exact ⟨b', by rw [key i (ne hb)]; exact h1, h2⟩
 | pboxA i o u n j =>
  obtain ⟨h0, h0', b', h1, h2⟩ := k
  exact ⟨h0, h0', b', by rw [key i (ne hb)]; exact h1, h2⟩
 | pbuf i t j fp =>
  obtain ⟨h0, b', n, c, q, u, h1, h2⟩ := k
  exact ⟨h0, b', n, c, q, u, by rw [key i (ne hb)]; exact h1, h2⟩
 | clos i =>
  obtain ⟨f, c, h1, h2⟩ := k
  exact ⟨f, c, by rw [key i (ne hb)]; exact h1, h2⟩
 | val t x => exact k
 | nil => exact k
 | nilp => exact k
 | pimm t x => exact k
 | func f => exact k
 | grd i =>
  obtain ⟨A, n, c, R, h1, h2⟩ := k
  exact ⟨A, n, c, R, by rw [key i (ne hb)]; exact h1, h2⟩
 | gpre i m =>
  obtain ⟨A, n, c, R, h1, h2⟩ := k
  exact ⟨A, n, c, R, by rw [key i (ne hb)]; exact h1, h2⟩
 | pgrd i t j =>
  obtain ⟨h0, b', n, c, R, h1, h2⟩ := k
  exact ⟨h0, b', n, c, R, by rw [key i (ne hb)]; exact h1, h2⟩
 | row i t j =>
  obtain ⟨h0, o, hs, A, n, c, h1, h2⟩ := k
  exact ⟨h0, o, hs, A, n, c, by rw [key i (ne hb)]; exact h1, h2⟩
 | prow i t j q =>
  obtain ⟨h0, h0', o, hs, b', n, c, h1, h2⟩ := k
  exact ⟨h0, h0', o, hs, b', n, c, by rw [key i (ne hb)]; exact h1, h2⟩
theorem LsRd.ren {a b : Nat} : ∀ {l : List LV} {cs : List Value}, l.any (LV.has b) = false -> LsRd w G.I G.h l cs -> LsRd w G.I (G.ren a b).h (l.map (w54 a b)) cs
 | [], _, _, k => k
 | v :: l, _, hb, ⟨c1, c2, e, r, k⟩ => by
  rw [List.any_cons, Bool.or_eq_false_iff] at hb
  exact ⟨c1, c2, e, r.ren hb.1, LsRd.ren hb.2 k⟩
theorem ARd.ren {a b : Nat} {v : AV} {x : Value} (hb : v.has b = false) (k : ARd w G.I G.h v x) : ARd w G.I (G.ren a b).h (w8r a b v) x := by
 cases v with
 | undef => trivial
 | one v => exact ⟨k.1, k.2.ren hb⟩
 | agg l => obtain ⟨cs, e, k⟩ := k; exact ⟨cs, e, k.ren hb⟩
 | tup l =>
  obtain ⟨vs, e, hl, k⟩ := k
  refine ⟨vs, e, by simpa using hl, fun i p y hp hy => ?_⟩
  simp only [List.getElem?_map] at hp
  cases hq : l[i]? with
  | none => simp [hq] at hp
  | some q =>
   simp only [hq, Option.map_some, Option.some.injEq] at hp
   subst hp
   have := k i q y hq hy
   have hqb : q.2.any (LV.has b) = false := by
    have hb : (l.any fun p => p.2.any (LV.has b)) = false := hb
    rw [List.any_eq_false] at hb
    simpa using hb q (List.mem_of_getElem? hq)
   cases hb' : q.1 <;> simp only [hb', if_true, if_false, Bool.false_eq_true] at this ⊢
   ·exact ⟨this.1, this.2.ren hqb⟩
   ·obtain ⟨cs, e, k⟩ := this; exact ⟨cs, e, k.ren hqb⟩
theorem Ob.ren {a b id id' : Nat} {o : Obj} (hb : o.has b = false) (h1 : (G.ren a b).h id' = G.h id) (h2 : (G.ren a b).bs id' = G.bs id) (k : Ob w G id o) : Ob w (G.ren a b) id' (yt1 a b o) := by
 cases o with
 | box l =>
  obtain ⟨b', C, E, fz, k1, k2, k3, k4, k5⟩ := k
  exact ⟨b', C, E, fz, h1.trans k1, h2.trans k2, k3, k4, k5.ren hb⟩
 | buf t xs =>
  rcases k with ⟨k1, k2, k3⟩ | ⟨b', c, C, E, fz, k1, k2, k3, k4, k5, k6, k7⟩
  ·exact .inl ⟨h1.trans k1, k2, h2.trans k3⟩
  ·exact .inr ⟨b', c, C, E, fz, h1.trans k1, h2.trans k2, k3, k4, k5, k6, k7⟩
 | grid t xs hole =>
  obtain ⟨b', c, C, E, fz, rb, k1, k2, k3, k4, k5, k6, k7, k8, k9, k10⟩ := k
  exact ⟨b', c, C, E, fz, rb, h1.trans k1, k2, k3, k4, k5, by rw [h2]; exact k6, fun i hi q hq => by rw [h2]; exact k7 i hi q hq, k8, k9, k10⟩
 | mat t xs sw =>
  rcases k with ⟨k1, k2, k3, k4⟩ | ⟨b', c, C, E, fz, rb, hs, k1, k2, k3, k4, k5, k6, k7, k8, k9, k10⟩
  ·exact .inl ⟨h1.trans k1, k2, h2.trans k3, k4⟩
  exact .inr ⟨b', c, C, E, fz, rb, hs, h1.trans k1, k2, k3, k4, k5, by rw [h2]; exact k6, fun i hi q hq => by rw [h2]; exact k7 i hi q hq, k8, k9, k10⟩
 | clos f l =>
  obtain ⟨cs, k1, k2, k3, k4⟩ := k
  refine ⟨cs, h1.trans k1, h2.trans k2, by simpa using k3, fun i v x hv hx => ?_⟩
  rw [List.getElem?_map] at hv
  cases hq : l[i]? with
  | none => simp [hq] at hv
  | some u =>
   simp only [hq, Option.map_some, Option.some.injEq] at hv
   subst hv
   have hub : u.has b = false := by
    have hb : l.any (LV.has b) = false := hb
    rw [List.any_eq_false] at hb
    simpa using hb u (List.mem_of_getElem? hq)
   exact ⟨(k4 i u x hq hx).1, (k4 i u x hq hx).2.ren hub⟩
theorem SavedRd.ren {a b : Nat} : ∀ {l : List (List (Nat × AV))} {tms : List (Array Value)}, (∀ m, m ∈ l -> ∀ t v, look t m = some v -> v.has b = false) -> SavedRd w G l tms ->
  SavedRd w (G.ren a b) (l.map fun l => l.map fun p => (p.1, w8r a b p.2)) tms
 | [], [], _, _ => trivial
 | m :: _, _ :: _, hb, ⟨h, k⟩ => ⟨fun u v hv => by
     rw [z59 (w8r a b)] at hv
     cases hq : look u m with
     | none => simp [hq] at hv
     | some v' => simp only [hq, Option.map_some, Option.some.injEq] at hv; subst hv; exact (h u v' hq).ren (hb m (List.mem_cons_self ..) u v' hq),
     SavedRd.ren (fun m hm => hb m (List.mem_cons_of_mem _ hm)) k⟩
 | [], _ :: _, _, h => h.elim
 | _ :: _, [], _, h => h.elim
theorem Rel.ren (k : Rel Pr w0 stk s tm w G) {a b : Nat} (hab : a ≠ b) : Rel Pr w0 stk (s.ren a b) tm w (G.ren a b) := by
 have hu := z47 s b
 have k1 := k.kill b
 have hgo : ∀ t o, (s.ren a b).obj t = some o -> ∃ t' o', (s.kill b).obj t' = some o' /\ o = yt1 a b o' /\ (G.ren a b).h t = G.h t' /\ (G.ren a b).bs t = G.bs t' /\ t' ≠ b /\ ((t = b /\ t' = a) \/ (t ≠ b /\ t = t' /\ t ≠ a)) := by
  intro t o h
  unfold MS.ren at h
  simp only [hab, if_false] at h
  unfold MS.obj at h
  by_cases e : t = b
  ·subst e
   rw [z1m] at h
   have h : ((s.kill t).obj a).map (yt1 a t) = some o := by unfold MS.obj; exact h
   cases ho : (s.kill t).obj a with
   | none => rw [ho] at h; simp at h
   | some o' =>
    rw [ho] at h
    simp only [Option.map_some] at h
    refine ⟨a, o', ho, ?_, by simp [Gh.ren], by simp [Gh.ren], hab, .inl ⟨rfl, rfl⟩⟩
    simpa using h.symm
  ·rw [z16 _ _ e] at h
   by_cases e' : t = a
   ·subst e'; rw [z1m] at h; simp at h
   ·rw [z16 _ _ e', z59 (fun o : Option Obj => o.map (yt1 a b))] at h
    cases hl : look t (s.kill b).objs with
    | none => simp [hl] at h
    | some x => cases x with
     | none => simp [hl] at h
     | some o' =>
      simp [hl] at h
      exact ⟨t, o', by unfold MS.obj; simp [hl], h.symm, by simp [Gh.ren, e], by simp [Gh.ren, e], e, .inr ⟨e, rfl, e'⟩⟩
 exact {
   keep := k.keep
   old := k.old
   isz := k.isz
   ob := fun t o h => by
     obtain ⟨t', o', h1, rfl, h2, h3, h4, _⟩ := hgo t o h
     exact (k1.ob t' o' h1).ren (hu.objs t' o' h1 h4) h2 h3
   sep := fun t o c h hc => by
     obtain ⟨t', o', h1, rfl, h2, h3, h4, _⟩ := hgo t o h
     rw [h3] at hc
     exact k1.sep t' o' c h1 hc
   dis := fun t t2 o o2 c h h2 hc hc2 => by
     obtain ⟨t', o', h1, rfl, _, h3, _, h5⟩ := hgo t o h
     obtain ⟨t2', o2', g1, rfl, _, g3, _, g5⟩ := hgo t2 o2 h2
     rw [h3] at hc
     rw [g3] at hc2
     have := k1.dis t' t2' o' o2' c h1 g1 hc hc2
     rcases h5 with ⟨rfl, rfl⟩ | ⟨_, rfl, _⟩ <;> rcases g5 with ⟨rfl, e⟩ | ⟨_, rfl, _⟩
     · rfl
     · exact absurd this.symm (by assumption)
     · exact absurd (this.trans e) (by assumption)
     · exact this
   slots := fun t v h => by
     unfold MS.ren at h
     simp only [hab, if_false] at h
     rw [z59 (w8r a b)] at h
     cases hq : look t (s.kill b).slots with
     | none => simp [hq] at h
     | some v' => simp only [hq, Option.map_some, Option.some.injEq] at h; subst h; exact (k1.slots t v' hq).ren (hu.slots t v' hq)
   saved := by
     unfold MS.ren
     simp only [hab, if_false]
     exact SavedRd.ren hu.saved k1.saved
   pin := fun i hi => by
     unfold MS.ren at hi
     simp only [hab, if_false] at hi
     have old : i ∈ (s.kill b).pin.filter (fun i => i != b && i != nnc b) -> PinOk w0.h0 (G.ren a b).h i := fun hi => by
       rw [List.mem_filter, Bool.and_eq_true, bne_iff_ne, bne_iff_ne] at hi
       exact (k.pin i hi.1).off (fun j hj => by simp [Gh.ren, hj]) hi.2.1 hi.2.2
     split at hi
     · rename_i hc
       rcases List.mem_cons.1 hi with rfl | hi
       · have := yy6 (k.pin _ (List.contains_iff_mem.1 hc))
         exact w6p (by simpa [Gh.ren] using this)
       · exact old hi
     · exact old hi }
theorem MS.ren_self (s : MS) (a : Nat) : s.ren a a = s := by simp [MS.ren]
theorem Rel.renAny (k : Rel Pr w0 stk s tm w G) (a b : Nat) : ∃ G', Rel Pr w0 stk (s.ren a b) tm w G' := by
 by_cases e : a = b
 ·subst e; rw [MS.ren_self]; exact ⟨G, k⟩
 ·exact ⟨_, k.ren e⟩
theorem Rel.settleL (d : Nat) (l0 : List (Nat × AV)) : ∀ (l : List (Nat × AV)) {s : MS} {G : Gh}, Rel Pr w0 stk s tm w G -> ∃ G', Rel Pr w0 stk (Vm.settleL d l0 l s) tm w G'
 | [], _, _, k => ⟨_, k⟩
 | (n, v) :: l, s, G, k => by
  have other : ∃ G', Rel Pr w0 stk (Vm.settleL d l0 l s) tm w G' := Rel.settleL d l0 l k
  unfold Vm.settleL
  split
  ·rename_i e; cases e
  ·rename_i m i l' e
   cases e
   split
   ·obtain ⟨G1, k1⟩ := k.renAny i (((d - 1) * 1000 + n) * 4)
    exact Rel.settleL d l0 l k1
   ·exact other
  ·rename_i e
   cases e
   exact other
theorem Rel.settle (k : Rel Pr w0 stk s tm w G) : ∃ G', Rel Pr w0 stk s.settle tm w G' := by
 unfold MS.settle
 split
 ·exact k.settleL _ _ _
 ·exact ⟨G, k⟩
end
end Vm
/- Calls in place: soundness. -/
namespace Vm
open Go
theorem w6j {α : Type} : ∀ (l : List α) (m t : Nat), look t ((l.zipIdx m).map fun p => (p.2, p.1)) = if m <= t then l[t - m]? else none
 | [], m, t => by simp [look]
 | x :: l, m, t => by
  simp only [List.zipIdx_cons, List.map_cons, look]
  rw [w6j l (m + 1) t]
  by_cases e : t = m
  ·subst e; simp
  ·rw [if_neg e]
   by_cases h : m <= t
   ·rw [if_pos h, if_pos (by omega), show t - m = (t - (m + 1)) + 1 by omega]; rfl
   ·rw [if_neg h, if_neg (by omega)]
section
variable {ρ : Type} {P : Program} {E : Env} {L : z1t} {k : Nat} {Pr : Nat -> Prop} {w0 : St} {w w' : World} {stk : List (Array Value)} {s : MS} {a : Act} {G : Gh} {K : AV -> MS -> Option ρ} {r : ρ} {tm : Array Value}
theorem yl9 {avs : List AV} {vs : Array Value} {n : Nat} (hl : avs.length = vs.size) (hr : ∀ (i : Nat) (u : AV) (v : Value), avs[i]? = some u -> vs[i]? = some v -> ARd w G.I G.h u v) :
  SlotsRd w G (avs.zipIdx.map fun p => (p.2, p.1)) (vs ++ Array.replicate n undef) := by
 intro t v h
 rw [w6j] at h
 simp only [Nat.zero_le, if_true, Nat.sub_zero] at h
 have ht : t < vs.size := by rw [<- hl]; exact (List.getElem?_eq_some_iff.1 h).1
 have hv : (vs ++ Array.replicate n undef).getD t undef = vs[t] := by
  rw [Array.getD, dif_pos (by simp; omega)]
  simp [Array.getElem_append_left ht]
 rw [hv]
 exact hr t v vs[t] h (Array.getElem?_eq_getElem ht)
theorem Rel.enter (k : Rel Pr w0 stk s tm w G) {avs : List AV} {vs : Array Value} {n : Nat} (hl : avs.length = vs.size) (hr : ∀ (i : Nat) (u : AV) (v : Value), avs[i]? = some u -> vs[i]? = some v -> ARd w G.I G.h u v) :
  Rel Pr w0 (tm :: stk) (enter avs s) (vs ++ Array.replicate n undef) w G :=
 ⟨k.keep, k.old, k.isz, k.ob, k.sep, k.dis, yl9 hl hr, ⟨k.slots, k.saved⟩, k.pin⟩
theorem Rel.leave {tm' : Array Value} (k : Rel Pr w0 (tm :: stk) s tm' w G) : Rel Pr w0 stk (leave s) tm w G := by
 obtain ⟨h1, h2, h3, h4, h5, h6, h7, h8, h9⟩ := k
 unfold Vm.leave
 cases hs : s.saved with
 | nil => rw [hs] at h8; exact h8.elim
 | cons l ls =>
  rw [hs] at h8
  exact ⟨h1, h2, h3, h4, h5, h6, h8.1, h8.2, h9⟩
def y3n (P : Program) (E : Env) : Prop := ∀ f fn, look f E.body = some fn -> P.funcs[f]? = some fn /\ z7h P f = true
theorem y8u (hE : EOk P E) (hS : z6j P E) (hB : y3n P E) (hP : ∀ b, Pr b -> b < w0.heap.size)
  (hparts : ∀ (n : Nat) (path : List FuncId) (f : FuncId) (fn : Func) (c : Code) (stk : List (Array Value)), look f E.body = some fn -> fn.body = some c -> y0p P Pr w0 (w8b E L k n (f :: path) : Inl ρ) ->
    y0r (y9c P E L k (f :: path) fn.ntmps Pr w0 stk (w8b E L k n (f :: path) : Inl ρ)) c) :
  ∀ (n : Nat) (path : List FuncId), y0p P Pr w0 (w8b E L k n path : Inl ρ)
 | 0, path => by intro f avs s K r stk tm w G vs h; simp [w8b] at h
 | n + 1, path => by
  intro f avs s K r stk tm w G vs h hr hl hrd
  simp only [w8b] at h
  split at h
  ·cases h
  ·rename_i fn hfn
   obtain ⟨hf, hent⟩ := hB f fn hfn
   refine ⟨hent, ?_⟩
   split at h
   ·cases h
   ·rename_i c hc
    split at h
    ·rename_i hle
     have ih := y8u hE hS hB hP hparts n (f :: path)
     have hcode := y8g (n := fn.ntmps) (stk := tm :: stk) hE hS hP ih c (hparts n path f fn c (tm :: stk) hfn hc ih)
     obtain ⟨G1, hr1⟩ := (hr.enter (n := fn.ntmps - vs.size) hl hrd).settle
     refine calls_of_wp hf hc (wp_mono (hcode _ { tmps := vs ++ Array.replicate (fn.ntmps - vs.size) undef, defers := [] } w G1 _ r hr1 (by simp; omega) h) fun e a' w' he => ?_)
     obtain ⟨x, rfl, s', G', h1, h2, h3, h4⟩ := he
     have fin : (match wl3 E s' fn.results.toList with
         | some l => K (w22 l) (leave s')
         | none => none) = some r -> a'.defers = [] /\ ∃ v, (results fn a'.tmps).run P w' = .ok v w' /\ After Pr w0 stk tm K r (.returned v) w' := by
      intro h4
      split at h4
      ·rename_i l hl
       obtain ⟨ys, g1, g2, g3⟩ := w70 hE h1 hl
       exact ⟨h3, packed ys, yl5 g1, w22 l, leave s', G', h1.leave, w6s g2 g3, h4⟩
      ·cases h4
     cases x with
     | normal => exact fin h4
     | exit i => cases h4
     | ret => exact fin h4
    ·cases h
end
end Vm
/- A function's run gives its contract. -/
namespace Vm
open Go
section
variable {P : Program} {E : Env} {L : z1t} {k : Nat} {Pr : Nat -> Prop} {w0 : St} {w w' : World} {stk : List (Array Value)} {s : MS} {a : Act} {G : Gh} {tm : Array Value}
theorem yz2 {I : Nat -> Prop} {h : Hv} : ∀ {ps : List Ty} {x : yn2 ps} {vs : List Value}, ArgsRd w I ps x vs -> (z7g ps x).length = vs.length /\ vs.length = ps.length /\
  ∀ (i : Nat) (u : AV) (v : Value), (z7g ps x)[i]? = some u -> vs[i]? = some v -> ARd w I h u v
 | [], _, _, e => by rw [show _ = _ from e]; exact ⟨rfl, rfl, by simp [z7g]⟩
 | [t], x, _, ⟨v, e, hv⟩ => by
  subst e
  refine ⟨rfl, rfl, fun i u y hu hy => ?_⟩
  cases i with
  | succ i => simp [z7g] at hu
  | zero =>
   simp only [z7g, List.getElem?_cons_zero, Option.some.injEq] at hu hy
   subst hu; subst hy
   exact ARd.typed hv.1 hv.2
 | t :: t' :: ps, x, _, ⟨v, vs, e, hv, hk⟩ => by
  subst e
  obtain ⟨h1, h2, h3⟩ := yz2 (h := h) hk
  refine ⟨by simp [z7g, h1], by simp [h2], fun i u y hu hy => ?_⟩
  cases i with
  | succ i => exact h3 i u y hu hy
  | zero =>
   simp only [z7g, List.getElem?_cons_zero, Option.some.injEq] at hu hy
   subst hu; subst hy
   exact ARd.typed hv.1 hv.2
theorem Rel.start {I : Nat -> Prop} {ps : List Ty} {x : yn2 ps} {vs : Array Value} {n : Nat} (hI : ∀ b, I b -> b < w.heap.size) (h : ArgsRd w I ps x vs.toList) :
  Rel (fun b => b < w.heap.size) { w with I0 := I, h0 := fun _ => none } [] { slots := (z7g ps x).zipIdx.map fun p => (p.2, p.1), objs := [], saved := [] } (vs ++ Array.replicate n undef) w { I := I, h := fun _ => none, bs := fun _ => [] } := by
 obtain ⟨h1, h2, h3⟩ := yz2 (h := fun _ => none) h
 refine ⟨Keep.refl _ _, fun _ _ h => h, hI, fun id o h => by simp [MS.obj, look] at h, fun id o b h => by simp [MS.obj, look] at h, fun id id' o o' b h => by simp [MS.obj, look] at h, ?_, trivial, fun i hi => by cases hi⟩
 exact yl9 (by simpa using h1) fun i u v hu hv => h3 i u v hu (by simpa using hv)
theorem wp7 {t : Ty} {p : Bool × List LV} {y : Value} {x : t.den} {J : Nat -> Prop} (k : Rel Pr w0 stk s tm w' G) (hp : PartRd w' G.I G.h p y) (h1 : p.1 = t.agg) (h2 : zt9 s t p.2 = some x)
  (hJ : ∀ b, G.I b \/ ownB s G p.2 b -> J b) : ValRd w' J t x y := by
 unfold PartRd at hp
 rw [h1] at hp
 cases ht : t.agg <;> simp only [ht, if_true, if_false, Bool.false_eq_true] at hp
 ·refine ⟨?_, by simp only [ht, Bool.false_eq_true, if_false]; exact hp.1⟩
  rw [z34 hp.1]
  exact (z9s k h2 hp.2).mono (fun _ _ => rfl) hJ
 ·obtain ⟨cs, rfl, hp⟩ := hp
  exact ⟨(z9s k h2 hp).mono (fun _ _ => rfl) hJ, by simp only [ht, if_true]; exact ⟨cs, rfl⟩⟩
theorem w8o {t : Ty} {p : Bool × List LV} {y : Value} {x : List t.den} {J : Nat -> Prop} (k : Rel Pr w0 stk s tm w' G) (hp : PartRd w' G.I G.h p y) (h : yd1 s (.fresh t) p = some x)
  (hJ : ∀ b, G.I b -> J b) (hnew : ∀ b, ¬ Pr b -> w.heap.size <= b) (hfree : ∀ id, id ∈ p.2.flatMap LV.refs -> ∀ ob b, s.obj id = some ob -> b ∈ G.bs id -> ¬ J b) :
  ∃ bs, ResOne w w' J (.fresh t) x y bs /\ ∀ b, b ∈ bs -> ∃ id ob, id ∈ p.2.flatMap LV.refs /\ s.obj id = some ob /\ b ∈ G.bs id := by
 have main : ∀ {id m : Nat} {u : Ty} {xs : List u.den} {A : Option Addr} {n c : Nat}, s.obj id = some (.buf u xs) -> id ∈ p.2.flatMap LV.refs -> G.h id = some (.slice A n c) -> m <= n -> y = .slice A m c ->
   zf6 (.slice t) (t' := .slice u) (xs.take m) = some x -> ∃ bs, ResOne w w' J (.fresh t) x y bs /\ ∀ b, b ∈ bs -> ∃ id ob, id ∈ p.2.flatMap LV.refs /\ s.obj id = some ob /\ b ∈ G.bs id := by
  intro id m u xs A n c ho hid hh hm hy hc
  obtain ⟨e, rfl⟩ := z2w hc
  cases e
  rcases k.ob id _ ho with ⟨k1, k2, k3⟩ | ⟨b, c', C, T, fz, k1, k2, k3, k4, k5, k6, k7⟩
  ·rw [k1] at hh
   cases hh
   obtain rfl : m = 0 := by omega
   subst k2
   exact ⟨[], .inl ⟨hy, rfl, rfl⟩, by simp⟩
  ·rw [k1] at hh
   cases hh
   have hl : (xs.take m).length = m := by simp; omega
   have hb : b ∈ G.bs id := by rw [k2]; simp
   refine ⟨[b], .inr ⟨b, c, C, T, fz, by rw [hl]; exact hy, rfl, by rw [hl]; omega, k4, k5, k6, fun i z hz => ?_, hnew b (k.sep id _ b ho hb).1, hfree id hid _ b ho hb⟩, fun b' hb' => ?_⟩
   ·have hz' : xs[i]? = some z := by
     have hz : (xs.take m)[i]? = some z := hz
     rw [List.getElem?_take] at hz
     split at hz
     ·exact hz
     ·cases hz
    exact (k7 i z hz').mono (fun _ _ => rfl) hJ
   ·rw [List.mem_singleton] at hb'; subst hb'; exact ⟨id, _, hid, ho, hb⟩
 obtain ⟨b, m⟩ := p
 cases b with
 | true => simp [yd1] at h
 | false =>
  unfold PartRd at hp
  simp only [Bool.false_eq_true, if_false] at hp
  rcases m with _ | ⟨v, _ | ⟨v2, m⟩⟩
  ·simp [yd1] at h
  ·have hp2 := LsRd.of_one hp.2
   cases v with
   | own id =>
    simp only [yd1] at h
    split at h
    ·rename_i u xs ho
     obtain ⟨A, n, c, h1, h2⟩ := hp2
     simp only [List.cons.injEq, and_true] at h2
     have hn := (zq2 (k.ob id _ ho) h1).1
     exact main (m := n) ho (by simp [LV.refs]) h1 (Nat.le_refl _) h2 (by rw [hn, List.take_length]; exact h)
    ·cases h
   | pre id n =>
    simp only [yd1] at h
    split at h
    ·rename_i u xs ho
     obtain ⟨A, n', c, h1, h2, h3⟩ := hp2
     simp only [List.cons.injEq, and_true] at h3
     exact main ho (by simp [LV.refs]) h1 h2 h3 h
    ·cases h
   | nil =>
    simp only [yd1, Option.some.injEq] at h
    subst h
    have : y = .slice none 0 0 := by simpa [LRd] using hp2
    exact ⟨[], .inl ⟨this, rfl, rfl⟩, by simp⟩
   | _ => simp [yd1] at h
  ·simp [yd1] at h
end
end Vm
/- A function's run gives its contract, joined. -/
namespace Vm
open Go
def w97 : List RM -> List (Bool × List LV) -> List LV
 | .imm _ :: rs, p :: l => p.2 ++ w97 rs l
 | .fresh _ :: rs, _ :: l => w97 rs l
 | _, _ => []
def z81 : List RM -> List (Bool × List LV) -> List Nat
 | .imm _ :: rs, _ :: l => z81 rs l
 | .fresh _ :: rs, p :: l => p.2.flatMap LV.refs ++ z81 rs l
 | _, _ => []
section
variable {P : Program} {E : Env} {L : z1t} {k : Nat} {Pr : Nat -> Prop} {w0 : St} {w w' : World} {stk : List (Array Value)} {s : MS} {a : Act} {G : Gh} {tm : Array Value}
theorem wh0 {rm : RM} {rs : List RM} {p : Bool × List LV} {l : List (Bool × List LV)} {y : Value} {x : rm.den} {J : Nat -> Prop} (k : Rel Pr w0 stk s tm w' G) (hp : PartRd w' G.I G.h p y) (h : yd1 s rm p = some x)
  (hJ : ∀ b, G.I b \/ ownB s G (w97 (rm :: rs) (p :: l)) b -> J b) (hnew : ∀ b, ¬ Pr b -> w.heap.size <= b)
  (hfree : ∀ id, id ∈ z81 (rm :: rs) (p :: l) -> ∀ ob b, s.obj id = some ob -> b ∈ G.bs id -> ¬ J b) :
  ∃ bs, ResOne w w' J rm x y bs /\ bs.Nodup /\ (∀ b, b ∈ bs -> ∃ id ob, id ∈ z81 [rm] [p] /\ s.obj id = some ob /\ b ∈ G.bs id) := by
 cases rm with
 | imm t =>
  simp only [yd1] at h
  split at h
  ·rename_i h1
   exact ⟨[], ⟨rfl, wp7 k hp h1 h fun b hb => hJ b (hb.imp id fun hb => y0b (fun v hv => List.mem_append_left _ hv) hb)⟩, List.nodup_nil, by simp⟩
  ·cases h
 | fresh t =>
  obtain ⟨bs, h1, h2⟩ := w8o k hp h (fun b hb => hJ b (.inl hb)) hnew fun id hid => hfree id (List.mem_append_left _ hid)
  refine ⟨bs, h1, ?_, fun b hb => ?_⟩
  ·rcases h1 with ⟨_, _, rfl⟩ | ⟨b, c, C, T, fz, _, rfl, _⟩
   ·exact List.nodup_nil
   ·simp
  ·obtain ⟨id, ob, e1, e2, e3⟩ := h2 b hb
   exact ⟨id, ob, by simpa [z81] using e1, e2, e3⟩
theorem w9j {J : Nat -> Prop} (k : Rel Pr w0 stk s tm w' G) (hnew : ∀ b, ¬ Pr b -> w.heap.size <= b) : ∀ {rs : List RM} {l : List (Bool × List LV)} {ys : List Value} {x : yo5 rs}, y5b s rs l = some x -> l.length = ys.length ->
  (∀ (i : Nat) (p : Bool × List LV) (y : Value), l[i]? = some p -> ys[i]? = some y -> PartRd w' G.I G.h p y) -> (∀ b, G.I b \/ ownB s G (w97 rs l) b -> J b) ->
  (∀ id, id ∈ z81 rs l -> ∀ ob b, s.obj id = some ob -> b ∈ G.bs id -> ¬ J b) -> (z81 rs l).Nodup ->
  ∃ bs, ResAll w w' J rs x ys bs /\ bs.Nodup /\ ∀ b, b ∈ bs -> ∃ id ob, id ∈ z81 rs l /\ s.obj id = some ob /\ b ∈ G.bs id
 | [], [], [], _, _, _, _, _, _, _ => ⟨[], ⟨rfl, rfl⟩, List.nodup_nil, by simp⟩
 | [rm], [p], [y], x, h, _, hr, hJ, hf, _ => by
  simp only [y5b] at h
  obtain ⟨bs, h1, h2, h3⟩ := wh0 (rs := []) (l := []) k (hr 0 p y rfl rfl) h hJ hnew hf
  exact ⟨bs, ⟨y, rfl, h1⟩, h2, h3⟩
 | rm :: rm' :: rs, p :: l, y :: ys, x, h, hl, hr, hJ, hf, hn => by
  simp only [y5b, Option.bind_eq_some_iff, Option.some.injEq] at h
  obtain ⟨x1, hx1, x2, hx2, rfl⟩ := h
  obtain ⟨b1, g1, g2, g3⟩ := wh0 (rs := rm' :: rs) (l := l) k (hr 0 p y rfl rfl) hx1 hJ hnew hf
  have hsub : ∀ id, id ∈ z81 (rm' :: rs) l -> id ∈ z81 (rm :: rm' :: rs) (p :: l) := by
   intro id hid
   cases rm with
   | imm t => exact hid
   | fresh t => exact List.mem_append_right _ hid
  have hn' : (z81 (rm' :: rs) l).Nodup := by
   cases rm with
   | imm t => exact hn
   | fresh t => exact (List.nodup_append.1 hn).2.1
  obtain ⟨b2, e1, e2, e3⟩ := w9j k hnew hx2 (by simpa using hl) (fun i q z hq hz => hr (i + 1) q z hq hz) (fun b hb => hJ b (hb.imp id fun hb => by
    cases rm with
    | imm t => exact y0b (fun v hv => List.mem_append_right _ hv) hb
    | fresh t => exact hb)) (fun id hid => hf id (hsub id hid)) hn'
  refine ⟨b1 ++ b2, ⟨y, ys, b1, b2, rfl, rfl, g1, e1⟩, List.nodup_append.2 ⟨g2, e2, fun a ha b hb => ?_⟩, fun b hb => ?_⟩
  ·rintro rfl
   obtain ⟨i1, o1, q1, q2, q3⟩ := g3 a ha
   obtain ⟨i2, o2, r1, r2, r3⟩ := e3 a hb
   have := k.dis i1 i2 o1 o2 a q2 r2 q3 r3
   subst this
   cases rm with
   | imm t => simp [z81] at q1
   | fresh t => exact (List.nodup_append.1 hn).2.2 i1 (by simpa [z81] using q1) i1 r1 rfl
  ·rcases List.mem_append.1 hb with hb | hb
   ·obtain ⟨i1, o1, q1, q2, q3⟩ := g3 b hb
    refine ⟨i1, o1, ?_, q2, q3⟩
    cases rm with
    | imm t => simp [z81] at q1
    | fresh t => exact List.mem_append_left _ (by simpa [z81] using q1)
   ·obtain ⟨i2, o2, r1, r2, r3⟩ := e3 b hb
    exact ⟨i2, o2, hsub i2 r1, r2, r3⟩
 | [], _ :: _, _, _, h, _, _, _, _, _ => by simp [y5b] at h
 | [], [], _ :: _, _, _, hl, _, _, _, _ => by simp at hl
 | [_], [], _, _, h, _, _, _, _, _ => by simp [y5b] at h
 | [_], _ :: _ :: _, _, _, h, _, _, _, _, _ => by simp [y5b] at h
 | [_], [_], [], _, _, hl, _, _, _, _ => by simp at hl
 | [_], [_], _ :: _ :: _, _, _, hl, _, _, _, _ => by simp at hl
 | _ :: _ :: _, [], _, _, h, _, _, _, _, _ => by simp [y5b] at h
 | _ :: _ :: _, _ :: _, [], _, _, hl, _, _, _, _ => by simp at hl
end
end Vm
/- A function's run gives its contract: the theorem. -/
namespace Vm
open Go
theorem w6q {l : List Nat} (h : nodupB l = true) : l.Nodup := by
 induction l with
 | nil => exact List.nodup_nil
 | cons a l ih =>
  simp only [nodupB, Bool.and_eq_true, Bool.not_eq_true'] at h
  refine List.nodup_cons.2 ⟨fun hm => ?_, ih h.2⟩
  have := List.contains_iff_mem.2 hm
  rw [this] at h; cases h.1
theorem apart : ∀ {rs : List RM} {l : List (Bool × List LV)}, (l.flatMap fun p => p.2.flatMap LV.refs).Nodup ->
  (z81 rs l).Nodup /\ (∀ id, id ∈ z81 rs l -> id ∈ l.flatMap fun p => p.2.flatMap LV.refs) /\ (∀ id, id ∈ (w97 rs l).flatMap LV.refs -> id ∈ l.flatMap fun p => p.2.flatMap LV.refs) /\
   ∀ id, id ∈ z81 rs l -> id ∉ (w97 rs l).flatMap LV.refs
 | [], l, _ => by simp [z81, w97]
 | .imm _ :: rs, [], _ => by simp [z81, w97]
 | .fresh _ :: rs, [], _ => by simp [z81, w97]
 | .imm t :: rs, p :: l, h => by
  rw [List.flatMap_cons] at h ⊢
  obtain ⟨h1, h2, h3⟩ := List.nodup_append.1 h
  obtain ⟨e1, e2, e3, e4⟩ := apart (rs := rs) h2
  refine ⟨e1, fun id hid => List.mem_append_right _ (e2 id hid), fun id hid => ?_, fun id hid hm => ?_⟩
  ·simp only [w97, List.flatMap_append, List.mem_append] at hid
   exact hid.elim (List.mem_append_left _) fun h => List.mem_append_right _ (e3 id h)
  ·simp only [w97, List.flatMap_append, List.mem_append] at hm
   exact hm.elim (fun hm => h3 id hm id (e2 id hid) rfl) (e4 id hid)
 | .fresh t :: rs, p :: l, h => by
  rw [List.flatMap_cons] at h ⊢
  obtain ⟨h1, h2, h3⟩ := List.nodup_append.1 h
  obtain ⟨e1, e2, e3, e4⟩ := apart (rs := rs) h2
  refine ⟨List.nodup_append.2 ⟨h1, e1, fun a ha b hb => h3 a ha b (e2 b hb)⟩, fun id hid => ?_, fun id hid => List.mem_append_right _ (e3 id hid), fun id hid hm => ?_⟩
  ·simp only [z81, List.mem_append] at hid
   exact hid.elim (List.mem_append_left _) fun h => List.mem_append_right _ (e2 id h)
  ·simp only [z81, List.mem_append] at hid
   exact hid.elim (fun hid => h3 id hid id (e3 id hm) rfl) fun hid => e4 id hid hm
section
variable {P : Program} {E : Env} {L : z1t} {k : Nat}
theorem w58 (hE : EOk P E) (hS : z6j P E) {fid : FuncId} {fn : Func} {c : Code} {ps : List Ty} {rs : List RM} (hf : P.funcs[fid]? = some fn) (hc : fn.body = some c)
  (hI : ∀ (Pr : Nat -> Prop) (w0 : St), (∀ b, Pr b -> b < w0.heap.size) -> y0p P Pr w0 (w8b E L k 8 [fid] : Inl (yo5 rs)))
  (hparts : ∀ (Pr : Nat -> Prop) (w0 : St), (∀ b, Pr b -> b < w0.heap.size) -> y0r (y9c P E L k [fid] fn.ntmps Pr w0 [] (w8b E L k 8 [fid] : Inl (yo5 rs))) c) :
  Spec.holds P fid { ps := ps, rs := rs, f := wi5 E L k fid fn ps rs } := by
 intro w I vs x r hIz hargs h
 have h : wi5 E L k fid fn ps rs x = some r := h
 unfold wi5 at h
 rw [hc] at h
 simp only at h
 split at h
 ·rename_i hle
  have hP : ∀ b, (fun b => b < w.heap.size) b -> b < ({ w with I0 := I, h0 := fun _ => none } : St).heap.size := fun b hb => hb
  obtain ⟨_, hlen, _⟩ := yz2 (h := fun _ => none) hargs
  have hst := Rel.start (n := fn.ntmps - vs.size) hIz hargs
  have hcode := y8g (n := fn.ntmps) (stk := []) hE hS hP (hI _ _ hP) c (hparts _ _ hP)
  refine calls_of_wp hf hc (wp_mono (hcode _ { tmps := vs ++ Array.replicate (fn.ntmps - vs.size) undef, defers := [] } w _ _ r hst (by simp at hlen ⊢; omega) h) fun e a' w' he => ?_)
  obtain ⟨x', rfl, s', G', h1, h2, h3, h4⟩ := he
  have fin : (match wl3 E s' fn.results.toList with
      | some l => if w6y l then y5b s' rs l else none
      | none => none) = some r -> a'.defers = [] /\ ∃ v, (results fn a'.tmps).run P w' = .ok v w' /\ (Grow w w' /\ ∃ I' ys bs, v = packed ys /\ bs.Nodup /\ (∀ b, I b -> I' b) /\
        (∀ b, I' b -> b < w'.heap.size /\ (I b \/ w.heap.size <= b)) /\ ResAll w w' I' rs r ys bs) := by
   intro h4
   split at h4
   ·rename_i l hl
    split at h4
    ·rename_i hap
     obtain ⟨ys, g1, g2, g3⟩ := w70 hE h1 hl
     obtain ⟨q1, q2, q3, q4⟩ := apart (rs := rs) (w6q hap)
     have hnew : ∀ b, ¬ (b < w.heap.size) -> w.heap.size <= b := fun b hb => Nat.not_lt.1 hb
     obtain ⟨bs, e1, e2, e3⟩ := w9j (J := fun b => I b \/ G'.I b \/ ownB s' G' (w97 rs l) b) h1 hnew h4 g2 g3 (fun b hb => .inr hb) (fun id hid ob b ho hb hJ => by
       have hs := h1.sep id ob b ho hb
       rcases hJ with hJ | hJ | ⟨v, hv, id', hid', ⟨_, _, ho', _⟩, hb'⟩
       · exact hs.1 (hIz b hJ)
       · exact hs.2.1 hJ
       · have := h1.dis id id' ob _ b ho ho' hb hb'
         subst this
         exact q4 id hid (List.mem_flatMap.2 ⟨v, hv, hid'⟩)) q1
     refine ⟨h3, packed ys, yl5 g1, ⟨h1.keep.os, h1.keep.tape, h1.keep.output, h1.keep.size, h1.keep.block⟩, _, ys, bs, rfl, e2, fun b hb => .inl hb, fun b hb => ?_, e1⟩
     rcases hb with hb | hb | hb
     ·exact ⟨Nat.lt_of_lt_of_le (hIz b hb) h1.keep.size, .inl hb⟩
     ·refine ⟨h1.isz b hb, ?_⟩
      by_cases hlt : b < w.heap.size
      ·exact .inl (h1.old b hlt hb)
      ·exact .inr (Nat.not_lt.1 hlt)
     ·obtain ⟨v, hv, id', hid', ⟨_, _, ho', _⟩, hb'⟩ := hb
      have hs := h1.sep id' _ b ho' hb'
      exact ⟨hs.2.2, .inr (Nat.not_lt.1 hs.1)⟩
    ·cases h4
   ·cases h4
  cases x' with
  | normal => exact fin h4
  | exit i => cases h4
  | ret => exact fin h4
 ·cases h
end
end Vm
/- Shapes at a loop's head: bringing a state into them keeps the relation. -/
namespace Vm
open Go
section
variable {Pr : Nat -> Prop} {w0 : St} {w : World} {stk : List (Array Value)} {s : MS} {tm : Array Value} {G : Gh}
theorem y8h (k : Rel Pr w0 stk s tm w G) (l : LSh) (v : LV) : ∃ G', Rel Pr w0 stk (w7y s l v) tm w G' /\ (∀ id t, l = .own id t \/ l = .pre id t -> v = .nil -> G'.h id = some (.slice none 0 0)) /\ ∀ id t, l = .grd id t -> v = .nil -> G'.h id = some (.tuple #[.slice none 0 0, .agg #[]]) := by
 unfold w7y
 split
 ·rename_i id t
  refine ⟨G.at id (.slice none 0 0) [], (k.kill id).add (z47 s id) (.inl ⟨y1x .., rfl, zu0 ..⟩) (fun b hb => by cases hb) (fun b hb => by cases hb), fun id' t' h _ => ?_, fun _ _ h => by cases h⟩
  rcases h with h | h <;> cases h; exact y1x ..
 ·obtain ⟨G', k'⟩ := k.renAny _ _
  exact ⟨G', k', fun _ _ _ h => (by cases h), fun _ _ _ h => by cases h⟩
 ·rename_i id t
  refine ⟨G.at id (.slice none 0 0) [], (k.kill id).add (z47 s id) (.inl ⟨y1x .., rfl, zu0 ..⟩) (fun b hb => by cases hb) (fun b hb => by cases hb), fun id' t' h _ => ?_, fun _ _ h => by cases h⟩
  rcases h with h | h <;> cases h; exact y1x ..
 ·obtain ⟨G', k'⟩ := k.renAny _ _
  exact ⟨G', k', fun _ _ _ h => (by cases h), fun _ _ _ h => by cases h⟩
 ·obtain ⟨G', k'⟩ := k.renAny _ _
  exact ⟨G', k', fun _ _ _ h => (by cases h), fun _ _ _ h => by cases h⟩
 ·obtain ⟨G', k'⟩ := k.renAny _ _
  exact ⟨G', k', fun _ _ _ h => (by cases h), fun _ _ _ h => by cases h⟩
 ·rename_i id t
  refine ⟨G.at id (.tuple #[.slice none 0 0, .agg #[]]) [], (k.kill id).add (z47 s id) (.inl ⟨y1x .., rfl, zu0 .., rfl⟩) (fun b hb => by cases hb) (fun b hb => by cases hb), fun id' t' h _ => ?_, fun id' t' h _ => ?_⟩
  ·rcases h with h | h <;> cases h
  ·cases h; exact y1x ..
 ·obtain ⟨G', k'⟩ := k.renAny _ _
  exact ⟨G', k', fun _ _ _ h => (by cases h), fun _ _ _ h => by cases h⟩
 ·obtain ⟨G', k'⟩ := k.renAny _ _
  exact ⟨G', k', fun _ _ _ h => (by cases h), fun _ _ _ h => by cases h⟩
 ·split
  ·obtain ⟨G', k'⟩ := k.renAny _ _
   exact ⟨G', k', fun _ _ _ h => (by cases h), fun _ _ _ h => by cases h⟩
  ·exact ⟨G, k, fun _ _ _ h => (by cases h), fun _ _ _ h => by cases h⟩
 ·rename_i i
  obtain ⟨G', k', _⟩ := k.solid i
  exact ⟨G', k', fun _ _ _ h => (by cases h), fun _ _ _ h => by cases h⟩
 ·rename_i i
  obtain ⟨G', k', _⟩ := k.solid i
  exact ⟨G', k', fun _ _ _ h => (by cases h), fun _ _ _ h => by cases h⟩
 ·rename_i i _
  obtain ⟨G', k', _⟩ := k.solid i
  exact ⟨G', k', fun _ _ _ h => (by cases h), fun _ _ _ h => by cases h⟩
 ·rename_i i _ _ _
  obtain ⟨G', k', _⟩ := k.solid i
  exact ⟨G', k', fun _ _ _ h => (by cases h), fun _ _ _ h => by cases h⟩
 ·rename_i h1 _ h2 _ _ _ h3 _ _ _ _ _ _ _
  exact ⟨G, k, fun id t hl hv => hl.elim (fun hl => absurd hv (h1 id t hl)) fun hl => absurd hv (h2 id t hl), fun id t hl hv => absurd hv (h3 id t hl)⟩
theorem y8j (k : Rel Pr w0 stk s tm w G) {l : LSh} {v v2 : LV} (hn : (∀ id t, l = .own id t \/ l = .pre id t -> v = .nil -> G.h id = some (.slice none 0 0)) /\ ∀ id t, l = .grd id t -> v = .nil -> G.h id = some (.tuple #[.slice none 0 0, .agg #[]])) {cs : List Value} (h : LRd w G.I G.h v2 cs) :
  LRd w G.I G.h (v12 s l v v2) cs := by
 unfold v12
 split
 ·rename_i id t
  exact ⟨none, 0, 0, hn.1 id t (.inl rfl) rfl, h⟩
 ·rename_i id t
  exact ⟨none, 0, 0, hn.1 id t (.inr rfl) rfl, Nat.le_refl _, h⟩
 ·rename_i id t
  exact ⟨none, 0, 0, _, hn.2 id t rfl rfl, h⟩
 ·rename_i id t _ i
  split
  ·rename_i e
   subst e
   split
   ·rename_i u xs ho
    obtain ⟨A, n, c, h1, h2⟩ := h
    have := (zq2 (k.ob _ _ ho) h1).1
    exact ⟨A, n, c, h1, by omega, by rw [<- this]; exact h2⟩
   ·exact h
  ·exact h
 ·exact h
theorem v13 {_ : LSh} {_ _ : LV} : True := trivial
theorem LsRd.set {I : Nat -> Prop} {h : Hv} : ∀ {l : List LV} {i : Nat} {v v' : LV} {cs : List Value}, l[i]? = some v -> (∀ cs, LRd w I h v cs -> LRd w I h v' cs) -> LsRd w I h l cs -> LsRd w I h (l.set i v') cs
 | [], _, _, _, _, hi, _, _ => by simp at hi
 | u :: l, 0, v, v', cs, hi, hv, ⟨c1, c2, e, r, k⟩ => by
  simp only [List.getElem?_cons_zero, Option.some.injEq] at hi
  subst hi
  exact ⟨c1, c2, e, hv _ r, k⟩
 | u :: l, i + 1, v, v', cs, hi, hv, ⟨c1, c2, e, r, k⟩ => by
  simp only [List.getElem?_cons_succ] at hi
  exact ⟨c1, c2, e, r, LsRd.set hi hv k⟩
theorem yw4 (k : Rel Pr w0 stk s tm w G) {n i : Nat} {l : LSh} {s' : MS} (h : w41 n i l s = some s') : ∃ G', Rel Pr w0 stk s' tm w G' := by
 unfold w41 at h
 split at h
 ·rename_i cur hc
  split at h
  ·rename_i v hv
   split at h
   ·rename_i cur' hc'
    split at h
    ·rename_i v2 hv2
     cases h
     obtain ⟨G', k', hn⟩ := y8h k l v
     refine ⟨G', k'.retell ?_⟩
     have hg := k'.get n
     rw [hc'] at hg
     obtain ⟨cs, e, hg⟩ := hg
     exact ⟨cs, e, LsRd.set hv2 (fun cs h => y8j k' hn h) hg⟩
    ·cases h
   ·cases h
  ·cases h
 ·cases h
theorem y9w {n : Nat} : ∀ {l : List LSh} {i : Nat} {s s' : MS} {G : Gh}, Rel Pr w0 stk s tm w G -> w18 n i l s = some s' -> ∃ G', Rel Pr w0 stk s' tm w G'
 | [], _, s, s', G, k, h => by simp only [w18, Option.some.injEq] at h; subst h; exact ⟨G, k⟩
 | l :: ls, i, s, s', G, k, h => by
  simp only [w18, Option.bind_eq_some_iff] at h
  obtain ⟨s1, h1, h2⟩ := h
  obtain ⟨G1, k1⟩ := yw4 k h1
  exact y9w k1 h2
theorem yw6 (k : Rel Pr w0 stk s tm w G) {n : Nat} {sh : Sh} {s' : MS} (h : w43 s n sh = some s') : ∃ G', Rel Pr w0 stk s' tm w G' := by
 cases sh with
 | agg ls => exact y9w k h
 | one l =>
  simp only [w43] at h
  split at h
  ·rename_i v hv
   split at h
   ·rename_i v2 hv2
    cases h
    obtain ⟨G', k', hn⟩ := y8h k l v
    refine ⟨G', k'.retell ?_⟩
    have hg := k'.get n
    rw [hv2] at hg
    exact ⟨hg.1, y8j k' hn hg.2⟩
   ·cases h
  ·cases h
theorem y4n : ∀ {l : List (Nat × Sh)} {s s' : MS} {G : Gh}, Rel Pr w0 stk s tm w G -> y72 l s = some s' -> ∃ G', Rel Pr w0 stk s' tm w G'
 | [], s, s', G, k, h => by simp only [y72, Option.some.injEq] at h; subst h; exact ⟨G, k⟩
 | p :: l, s, s', G, k, h => by
  simp only [y72, Option.bind_eq_some_iff] at h
  obtain ⟨s1, h1, h2⟩ := h
  obtain ⟨G1, k1⟩ := yw6 k h1
  exact y4n k1 h2
theorem Rel.retellO (k : Rel Pr w0 stk s tm w G) {id : Nat} {o o' : Obj} (h : s.obj id = some o) (ho : Ob w G id o') : Rel Pr w0 stk (s.upd id o') tm w G :=
 k.turn (w' := w) h (fun _ _ => rfl) rfl rfl rfl rfl ho
theorem yw5 (k : Rel Pr w0 stk s tm w G) {id i : Nat} {l : LSh} {s' : MS} (h : w42 id i l s = some s') : ∃ G', Rel Pr w0 stk s' tm w G' := by
 unfold w42 at h
 split at h
 ·rename_i cur hc
  split at h
  ·rename_i v hv
   split at h
   ·rename_i cur' hc'
    split at h
    ·rename_i v2 hv2
     cases h
     obtain ⟨G', k', hn⟩ := y8h k l v
     refine ⟨G', k'.retellO hc' ?_⟩
     obtain ⟨b, C, E, fz, k1, k2, k3, k4, k5⟩ := k'.ob _ _ hc'
     exact ⟨b, C, E, fz, k1, k2, k3, k4, LsRd.set hv2 (fun cs h => y8j k' hn h) k5⟩
    ·cases h
   ·cases h
  ·cases h
 ·cases h
theorem y9x {id : Nat} : ∀ {l : List LSh} {i : Nat} {s s' : MS} {G : Gh}, Rel Pr w0 stk s tm w G -> w19 id i l s = some s' -> ∃ G', Rel Pr w0 stk s' tm w G'
 | [], _, s, s', G, k, h => by simp only [w19, Option.some.injEq] at h; subst h; exact ⟨G, k⟩
 | l :: ls, i, s, s', G, k, h => by
  simp only [w19, Option.bind_eq_some_iff] at h
  obtain ⟨s1, h1, h2⟩ := h
  obtain ⟨G1, k1⟩ := yw5 k h1
  exact y9x k1 h2
theorem z8c : ∀ {l : List (Nat × OSh)} {s s' : MS} {G : Gh}, Rel Pr w0 stk s tm w G -> zx4 l s = some s' -> ∃ G', Rel Pr w0 stk s' tm w G'
 | [], s, s', G, k, h => by simp only [zx4, Option.some.injEq] at h; subst h; exact ⟨G, k⟩
 | (id, .box ls) :: r, s, s', G, k, h => by
  simp only [zx4, Option.bind_eq_some_iff] at h
  obtain ⟨s1, h1, h2⟩ := h
  obtain ⟨G1, k1⟩ := y9x k h1
  exact z8c k1 h2
 | (id, .buf t) :: r, s, s', G, k, h => by simp only [zx4] at h; exact z8c k h
 | (id, .clos f ls) :: r, s, s', G, k, h => by simp only [zx4] at h; exact z8c k h
 | (id, .grid t) :: r, s, s', G, k, h => by simp only [zx4] at h; exact z8c k h
 | (id, .mat t) :: r, s, s', G, k, h => by simp only [zx4] at h; exact z8c k h
theorem w1a (k : Rel Pr w0 stk s tm w G) {a : Ann} {s' : MS} (h : s.coe a = some s') : ∃ G', Rel Pr w0 stk s' tm w G' := by
 simp only [MS.coe, Option.bind_eq_some_iff] at h
 obtain ⟨s1, h1, h2⟩ := h
 obtain ⟨G1, k1⟩ := y4n k h1
 exact z8c k1 h2
theorem w8u {u v : LV} (h : w59 u v = true) : u = v := by
 unfold w59 at h
 split at h
 ·rfl
 ·rfl
 ·simp only [Bool.and_eq_true, beq_iff_eq] at h; rw [h.1, h.2]
 ·simp only [beq_iff_eq] at h; rw [h]
 ·simp only [beq_iff_eq] at h; rw [h]
 ·cases h
theorem w4a (k : Rel Pr w0 stk s tm w G) {l : LSh} {v : LV} {r : List Ty} {d : zb9 r} {d' : zb9 (v0p l r)} (h : v2c s l v r d = some d') :
  (w47 l r d').2 = d /\ ∀ cs, LRd w G.I G.h v cs -> LRd w G.I G.h (w47 l r d').1 cs := by
 unfold v2c at h
 split at h
 ·rename_i t v r d
  split at h
  ·rename_i hr
   simp only [Option.map_eq_some_iff] at h
   obtain ⟨x, hx, rfl⟩ := h
   refine ⟨rfl, fun cs hc => ?_⟩
   refine (yy8 k hx hc).mono (fun _ _ => rfl) fun b hb => ?_
   rcases hb with hb | ⟨u, hu, id, hid, _⟩
   ·exact hb
   ·rw [List.mem_singleton] at hu
    subst hu
    rw [List.isEmpty_iff.1 hr] at hid; cases hid
  ·cases h
 ·split at h
  ·split at h
   ·rename_i hc
    first
     | (obtain ⟨rfl, rfl, rfl⟩ := hc; cases h; exact ⟨rfl, fun cs h => h⟩)
     | (obtain ⟨rfl, rfl⟩ := hc; cases h; exact ⟨rfl, fun cs h => h⟩)
   ·cases h
  ·cases h
 ·split at h
  ·split at h
   ·rename_i hc
    first
     | (obtain ⟨rfl, rfl, rfl⟩ := hc; cases h; exact ⟨rfl, fun cs h => h⟩)
     | (obtain ⟨rfl, rfl⟩ := hc; cases h; exact ⟨rfl, fun cs h => h⟩)
   ·cases h
  ·cases h
 ·split at h
  ·split at h
   ·rename_i hc
    first
     | (obtain ⟨rfl, rfl, rfl⟩ := hc; cases h; exact ⟨rfl, fun cs h => h⟩)
     | (obtain ⟨rfl, rfl⟩ := hc; cases h; exact ⟨rfl, fun cs h => h⟩)
   ·cases h
  ·split at h
   ·rename_i hc
    obtain ⟨rfl, _⟩ := hc
    cases h
    exact ⟨rfl, fun cs h => h⟩
   ·cases h
  ·cases h
 ·split at h
  ·split at h
   ·rename_i hc
    obtain ⟨rfl, _⟩ := hc
    cases h
    exact ⟨rfl, fun cs h => h⟩
   ·cases h
  ·cases h
 ·split at h
  ·split at h
   ·rename_i hc
    obtain ⟨rfl, rfl, _⟩ := hc
    cases h
    refine ⟨rfl, fun cs h => ?_⟩
    have h0 := h.1
    simp only [w47, Int.toNat_of_nonneg h0]
    exact h
   ·cases h
  ·cases h
 ·split at h
  ·rename_i hf
   cases h
   have := w8u hf
   subst this
   exact ⟨rfl, fun cs h => h⟩
  ·cases h
 ·cases h
theorem yd5 (k : Rel Pr w0 stk s tm w G) : ∀ {l : List LSh} {v : List LV} {r : List Ty} {d : zb9 r} {d' : zb9 (y9b l r)}, yc4 s l v r d = some d' ->
  (y0z l r d').2 = d /\ (y0z l r d').1.length = v.length /\ ∀ cs, LsRd w G.I G.h v cs -> LsRd w G.I G.h (y0z l r d').1 cs
 | [], [], r, d, d', h => by simp only [yc4, Option.some.injEq] at h; subst h; exact ⟨rfl, rfl, fun cs h => h⟩
 | l :: ls, v :: vs, r, d, d', h => by
  simp only [yc4, Option.bind_eq_some_iff] at h
  obtain ⟨d1, h1, h2⟩ := h
  obtain ⟨e1, e2⟩ := w4a k h2
  obtain ⟨g1, g2, g3⟩ := yd5 k h1
  refine ⟨?_, ?_, ?_⟩
  ·simp only [y0z]; rw [e1]; exact g1
  ·simp only [y0z, List.length_cons]; rw [e1, g2]
  ·rintro cs ⟨c1, c2, rfl, hr, hk⟩
   refine ⟨c1, c2, rfl, e2 _ hr, ?_⟩
   rw [e1]
   exact g3 _ hk
 | [], _ :: _, _, _, _, h => by simp [yc4] at h
 | _ :: _, [], _, _, _, h => by simp [yc4] at h
theorem wn8 (k : Rel Pr w0 stk s tm w G) {l : Sh} {v : AV} {r : List Ty} {d : zb9 r} {d' : zb9 (wk5 l r)} (h : wx5 s l v r d = some d') :
  (w82 l r d').2 = d /\ ∀ x, ARd w G.I G.h v x -> ARd w G.I G.h (w82 l r d').1 x := by
 unfold wx5 at h
 split at h
 ·obtain ⟨e1, e2⟩ := w4a k h
  exact ⟨e1, fun x hx => ⟨hx.1, e2 _ hx.2⟩⟩
 ·obtain ⟨e1, _, e2⟩ := yd5 k h
  exact ⟨e1, fun x ⟨cs, e, hx⟩ => ⟨cs, e, e2 _ hx⟩⟩
 ·cases h
theorem w4c (k : Rel Pr w0 stk s tm w G) : ∀ {l : List (Nat × Sh)} {r : List Ty} {d : zb9 r} {d' : zb9 (wl4 l r)}, v1h s l r d = some d' ->
  (w62 l r d').2 = d /\ SlotsRd w G (w62 l r d').1 tm
 | [], r, d, d', h => by
  simp only [v1h, Option.some.injEq] at h; subst h
  exact ⟨rfl, fun t v h => by simp [w62, look] at h⟩
 | p :: l, r, d, d', h => by
  simp only [v1h, Option.bind_eq_some_iff] at h
  obtain ⟨d1, h1, h2⟩ := h
  obtain ⟨e1, e2⟩ := wn8 k h2
  obtain ⟨g1, g2⟩ := w4c k h1
  refine ⟨?_, fun t v hv => ?_⟩
  ·simp only [w62]; rw [e1]; exact g1
  ·simp only [w62] at hv
   by_cases e : t = p.1
   ·subst e
    rw [z1m] at hv
    cases hv
    exact e2 _ (k.get p.1)
   ·rw [z16 _ _ e, e1] at hv
    exact g2 t v hv
theorem wn7 (k : Rel Pr w0 stk s tm w G) {id : Nat} {l : OSh} {o : Obj} {r : List Ty} {d : zb9 r} {d' : zb9 (wk4 l r)} (h : wx4 s l o r d = some d') :
  (yx1 l r d').2 = d /\ (Ob w G id o -> Ob w G id (yx1 l r d').1) := by
 unfold wx4 at h
 split at h
 ·rename_i t t' xs r d
  simp only [Option.map_eq_some_iff] at h
  obtain ⟨x, hx, rfl⟩ := h
  obtain ⟨e, rfl⟩ := z2w hx
  cases e
  exact ⟨rfl, fun h => h⟩
 ·obtain ⟨e1, e2, e3⟩ := yd5 k h
  refine ⟨e1, fun ⟨b, C, E, fz, k1, k2, k3, k4, k5⟩ => ⟨b, C, E, fz, k1, k2, k3, k4, e3 _ k5⟩⟩
 ·rename_i f l g v r d
  split at h
  ·rename_i hf
   subst hf
   obtain ⟨e1, e2, e3⟩ := yd5 k h
   refine ⟨e1, fun ⟨cs, k1, k2, k3, k4⟩ => ⟨cs, k1, k2, by rw [k3]; exact e2.symm, ?_⟩⟩
   have key : ∀ {l : List LSh} {v : List LV} {r : List Ty} {d : zb9 r} {d' : zb9 (y9b l r)}, yc4 s l v r d = some d' -> ∀ (cs : List Value), (∀ (i : Nat) (u : LV) (x : Value), v[i]? = some u -> cs[i]? = some x -> cell1 x = true /\ LRd w G.I G.h u [x]) ->
     ∀ (i : Nat) (u : LV) (x : Value), (y0z l r d').1[i]? = some u -> cs[i]? = some x -> cell1 x = true /\ LRd w G.I G.h u [x] := by
    intro l
    induction l with
    | nil => intro v r d d' h cs hv i u x hu hx; simp [y0z] at hu
    | cons l ls ih =>
     intro v r d d' h cs hv i u x hu hx
     cases v with
     | nil => simp [yc4] at h
     | cons v vs =>
      simp only [yc4, Option.bind_eq_some_iff] at h
      obtain ⟨d1, h1, h2⟩ := h
      obtain ⟨e1, e2⟩ := w4a k h2
      simp only [y0z] at hu
      cases i with
      | zero =>
       simp only [List.getElem?_cons_zero, Option.some.injEq] at hu
       subst hu
       obtain ⟨q1, q2⟩ := hv 0 v x rfl hx
       exact ⟨q1, e2 _ q2⟩
      | succ i =>
       rw [List.getElem?_cons_succ, e1] at hu
       exact ih h1 (cs.drop 1) (fun i u x hu hx => hv (i + 1) u x hu (by rw [List.getElem?_drop] at hx; rw [Nat.add_comm]; exact hx)) i u x hu (by rw [List.getElem?_drop, Nat.add_comm]; exact hx)
   intro i u x hu hx
   exact key h cs.toList (fun i u x hu hx => k4 i u x hu (by simpa using hx)) i u x hu (by simpa using hx)
  ·cases h
 ·rename_i t t' xs r d
  simp only [Option.map_eq_some_iff] at h
  obtain ⟨x, hx, rfl⟩ := h
  obtain ⟨e, rfl⟩ := z2w hx
  cases e
  exact ⟨rfl, fun h => h⟩
 ·rename_i t t' xs r d
  simp only [Option.map_eq_some_iff] at h
  obtain ⟨x, hx, rfl⟩ := h
  obtain ⟨e, rfl⟩ := z2w hx
  cases e
  exact ⟨rfl, fun h => h⟩
 ·cases h
theorem w4b (k : Rel Pr w0 stk s tm w G) : ∀ {l : List (Nat × OSh)} {r : List Ty} {d : zb9 r} {d' : zb9 (w5f l r)}, v1g s l r d = some d' ->
  (w01 l r d').2 = d /\ ∀ id o, (look id (w01 l r d').1).join = some o -> Ob w G id o /\ ∃ o0, s.obj id = some o0
 | [], r, d, d', h => by
  simp only [v1g, Option.some.injEq] at h; subst h
  exact ⟨rfl, fun t v h => by simp [w01, look] at h⟩
 | p :: l, r, d, d', h => by
  simp only [v1g, Option.bind_eq_some_iff] at h
  obtain ⟨d1, h1, o1, ho1, h2⟩ := h
  obtain ⟨e1, e2⟩ := wn7 (id := p.1) k h2
  obtain ⟨g1, g2⟩ := w4b k h1
  refine ⟨?_, fun id o hv => ?_⟩
  ·simp only [w01]; rw [e1]; exact g1
  ·simp only [w01] at hv
   by_cases e : id = p.1
   ·subst e
    rw [z1m] at hv
    simp only [Option.join_some, Option.some.injEq] at hv
    subst hv
    exact ⟨e2 (k.ob _ _ ho1), o1, ho1⟩
   ·rw [z16 _ _ e, e1] at hv
    exact g2 id o hv
theorem yx2 (k : Rel Pr w0 stk s tm w G) {a : Ann} {d : zb9 a.tys} (h : ext s a = some d) {pins : List Nat} (hp : ∀ i, i ∈ pins -> i ∈ s.pin) : Rel Pr w0 [] { emb a d with pin := pins } tm w G := by
 simp only [ext, Option.bind_eq_some_iff] at h
 obtain ⟨d1, h1, h2⟩ := h
 obtain ⟨e1, e2⟩ := w4c k h2
 obtain ⟨g1, g2⟩ := w4b k h1
 have hob : ∀ id o, (emb a d).obj id = some o -> Ob w G id o /\ ∃ o0, s.obj id = some o0 := by
  intro id o h
  refine g2 id o ?_
  have h : (look id (w01 a.objs [] (w62 a.slots (w5f a.objs []) d).2).1).join = some o := h
  rw [e1] at h
  exact h
 exact ⟨k.keep, k.old, k.isz, fun id o h => (hob id o h).1, fun id o b h hb => let ⟨o0, h0⟩ := (hob id o h).2; k.sep id o0 b h0 hb,
   fun id id' o o' b h h' hb hb' => let ⟨o0, h0⟩ := (hob id o h).2; let ⟨o0', h0'⟩ := (hob id' o' h').2; k.dis id id' o0 o0' b h0 h0' hb hb', e2, trivial, fun i hi => k.pin i (hp i hi)⟩
theorem w1h {a : Ann} {d : zb9 a.tys} {id : Nat} {o : Obj} (h : (emb a d).obj id = some o) : id ∈ a.objs.map (·.1) := by
 have key : ∀ {l : List (Nat × OSh)} {r : List Ty} {d : zb9 (w5f l r)}, (look id (w01 l r d).1).join = some o -> id ∈ l.map (·.1) := by
  intro l
  induction l with
  | nil => intro r d h; simp [w01, look] at h
  | cons p l ih =>
   intro r d h
   simp only [w01] at h
   by_cases e : id = p.1
   ·rw [e]; simp
   ·rw [z16 _ _ e] at h
    rw [List.map_cons]; exact List.mem_cons_of_mem _ (ih h)
 exact key h
theorem ww8 {a : Ann} {d : zb9 a.tys} {id : Nat} (h : id ∈ a.objs.map (·.1)) : ∃ o, look id (emb a d).objs = some (some o) := by
 have key : ∀ {l : List (Nat × OSh)} {r : List Ty} {d : zb9 (w5f l r)}, id ∈ l.map (·.1) -> ∃ o, look id (w01 l r d).1 = some (some o) := by
  intro l
  induction l with
  | nil => intro r d h; cases h
  | cons p l ih =>
   intro r d h
   simp only [w01]
   by_cases e : id = p.1
   ·subst e; rw [z1m]; exact ⟨_, rfl⟩
   ·rw [z16 _ _ e]
    rw [List.map_cons, List.mem_cons] at h
    exact ih (h.resolve_left e)
 exact key h
theorem wb9 {L : List Nat} {l : LSh} {r : List Ty} {d : zb9 (v0p l r)} (h : l.inB L = true) {i : Nat} (hi : (w47 l r d).1.has i = true) : i ∈ L := by
 cases l with
 | fix v =>
  have h : v.refs.all L.contains = true := h
  have hi : v.has i = true := hi
  have : i ∈ v.refs := by
   cases v <;> first
    | (simp only [LV.has, beq_iff_eq] at hi; subst hi; simp [LV.refs])
    | simp [LV.has] at hi
  rw [List.all_eq_true] at h
  simpa using h i this
 | own id t =>
  simp only [LSh.inB, List.contains_eq_mem, decide_eq_true_eq] at h
  simp only [w47, LV.has, beq_iff_eq] at hi
  rw [<- hi]; exact h
 | pre id t =>
  simp only [LSh.inB, List.contains_eq_mem, decide_eq_true_eq] at h
  simp only [w47, LV.has, beq_iff_eq] at hi
  rw [<- hi]; exact h
 | vw id t =>
  simp only [LSh.inB, List.contains_eq_mem, decide_eq_true_eq] at h
  simp only [w47, LV.has, beq_iff_eq] at hi
  rw [<- hi]; exact h
 | grd id t =>
  simp only [LSh.inB, List.contains_eq_mem, decide_eq_true_eq] at h
  simp only [w47, LV.has, beq_iff_eq] at hi
  rw [<- hi]; exact h
 | row id t =>
  simp only [LSh.inB, List.contains_eq_mem, decide_eq_true_eq] at h
  simp only [w47, LV.has, beq_iff_eq] at hi
  rw [<- hi]; exact h
 | val t => simp [w47, LV.has] at hi
theorem yd4 {L : List Nat} : ∀ {l : List LSh} {r : List Ty} {d : zb9 (y9b l r)}, l.all (LSh.inB L) = true -> ∀ {i : Nat}, (y0z l r d).1.any (LV.has i) = true -> i ∈ L
 | [], _, _, _, i, hi => by simp [y0z] at hi
 | l :: ls, r, d, h, i, hi => by
  rw [List.all_cons, Bool.and_eq_true] at h
  simp only [y0z, List.any_cons, Bool.or_eq_true] at hi
  rcases hi with hi | hi
  ·exact wb9 h.1 hi
  ·exact yd4 h.2 hi
theorem wn2 {L : List Nat} {l : Sh} {r : List Ty} {d : zb9 (wk5 l r)} (h : l.inB L = true) {i : Nat} (hi : (w82 l r d).1.has i = true) : i ∈ L := by
 cases l with
 | one l => exact wb9 h hi
 | agg l => exact yd4 h hi
theorem wc1 {L : List Nat} : ∀ {l : List (Nat × Sh)} {r : List Ty} {d : zb9 (wl4 l r)}, (l.all fun p => p.2.inB L) = true -> ∀ {t : Nat} {v : AV}, look t (w62 l r d).1 = some v -> ∀ {i : Nat}, v.has i = true -> i ∈ L
 | [], _, _, _, t, v, hv, i, hi => by simp [w62, look] at hv
 | p :: l, r, d, h, t, v, hv, i, hi => by
  rw [List.all_cons, Bool.and_eq_true] at h
  simp only [w62] at hv
  by_cases e : t = p.1
  ·subst e; rw [z1m] at hv; cases hv; exact wn2 h.1 hi
  ·rw [z16 _ _ e] at hv; exact wc1 h.2 hv hi
theorem wn1 {L : List Nat} {l : OSh} {r : List Ty} {d : zb9 (wk4 l r)} (h : l.inB L = true) {i : Nat} (hi : (yx1 l r d).1.has i = true) : i ∈ L := by
 cases l with
 | buf t => simp [yx1, Obj.has] at hi
 | grid t => simp [yx1, Obj.has] at hi
 | mat t => simp [yx1, Obj.has] at hi
 | box l => exact yd4 h hi
 | clos f l => exact yd4 h hi
theorem wc0 {L : List Nat} : ∀ {l : List (Nat × OSh)} {r : List Ty} {d : zb9 (w5f l r)}, (l.all fun p => p.2.inB L) = true -> ∀ {t : Nat} {o : Obj}, look t (w01 l r d).1 = some (some o) -> ∀ {i : Nat}, o.has i = true -> i ∈ L
 | [], _, _, _, t, v, hv, i, hi => by simp [w01, look] at hv
 | p :: l, r, d, h, t, v, hv, i, hi => by
  rw [List.all_cons, Bool.and_eq_true] at h
  simp only [w01] at hv
  by_cases e : t = p.1
  ·subst e; rw [z1m] at hv; cases hv; exact wn1 h.1 hi
  ·rw [z16 _ _ e] at hv; exact wc0 h.2 hv hi
end
end Vm
/- z1t: soundness. -/
namespace Vm
open Go
section
variable {Pr : Nat -> Prop} {w0 : St} {w w' : World} {stk : List (Array Value)} {s : MS} {tm tm' : Array Value} {G G' : Gh}
theorem wx6 (k : Rel Pr w0 stk s tm w G) {a : Ann} {d : zb9 a.tys} (h : ext s a = some d) {id : Nat} {o : Obj} (ho : (emb a d).obj id = some o) : ∃ o0, s.obj id = some o0 := by
 simp only [ext, Option.bind_eq_some_iff] at h
 obtain ⟨d1, h1, h2⟩ := h
 obtain ⟨e1, e2⟩ := w4c k h2
 obtain ⟨g1, g2⟩ := w4b k h1
 have ho : (look id (w01 a.objs [] (w62 a.slots (w5f a.objs []) d).2).1).join = some o := ho
 rw [e1] at ho
 exact (g2 id o ho).2
theorem y8i (k : Rel Pr w0 stk s tm w G) {a : Ann} {pins : List Nat} {s' : MS} (h : s.coeP pins a = some s') : ∃ G', Rel Pr w0 stk s' tm w G' /\ ∀ i, i ∈ pins -> i ∈ s'.pin := by
 unfold MS.coeP at h
 split at h
 ·cases h
 ·rename_i s1 hs1
  split at h
  ·rename_i hp
   cases h
   obtain ⟨G', k'⟩ := w1a k hs1
   rw [List.all_eq_true] at hp
   exact ⟨G', k', fun i hi => by simpa using hp i hi⟩
  ·cases h
def yn3 (w : World) (G : Gh) (s : MS) (L : List Nat) (b : Nat) : Prop := b < w.heap.size /\ ∀ id o, id ∈ L -> s.obj id = some o -> b ∉ G.bs id
theorem w83 (k : Rel Pr w0 stk s tm w G) {a : Ann} {d : zb9 a.tys} (h : ext s a = some d) (pins : List Nat) (hp : ∀ i, i ∈ pins -> i < nnB) : Rel (yn3 w G s (a.objs.map (·.1))) { w with I0 := G.I, h0 := G.h } [] { emb a d with pin := pins } tm w G := by
 have k1 := yx2 k h (pins := []) (by simp)
 exact ⟨Keep.refl _ _, fun b _ hb => hb, k1.isz, k1.ob, fun id o b ho hb => ⟨fun ha => by
   obtain ⟨o0, h0⟩ := wx6 k h ho
   exact ha.2 id o0 (w1h ho) h0 hb, (k1.sep id o b ho hb).2⟩, k1.dis, k1.slots, k1.saved, fun i hi => by unfold PinOk; rw [if_pos (hp i hi)]⟩
theorem w1p : ∀ (N : List Nat) {s : MS}, Rel Pr w0 stk s tm w G -> Rel Pr w0 stk (N.foldl MS.kill s) tm w G
 | [], _, k => k
 | n :: N, _, k => w1p N (k.kill n)
theorem Unnamed.kill {n : Nat} (h : Unnamed s n) (id : Nat) : Unnamed (s.kill id) n where
 slots := fun t v hv => by
  have hv : look t (y48 id s.slots) = some v := hv
  rw [zp0] at hv
  cases hl : look t s.slots with
  | none => simp [hl] at hv
  | some u =>
   simp only [hl, Option.map_some, Option.some.injEq] at hv
   subst hv
   split
   ·rfl
   ·exact h.slots t u hl
 objs := fun t o ho hne => h.objs t o (z0w ho).2.1 hne
 saved := fun l hl t v hv => by
  have hl : l ∈ s.saved.map (y48 id) := hl
  obtain ⟨l', hl', rfl⟩ := List.mem_map.1 hl
  rw [zp0] at hv
  cases hq : look t l' with
  | none => simp [hq] at hv
  | some u =>
   simp only [hq, Option.map_some, Option.some.injEq] at hv
   subst hv
   split
   ·rfl
   ·exact h.saved l' hl' t u hq
theorem y7c : ∀ (N : List Nat) {s : MS} {n : Nat}, n ∈ N \/ Unnamed s n -> Unnamed (N.foldl MS.kill s) n
 | [], _, _, h => h.elim (fun h => by cases h) id
 | m :: N, s, n, h => y7c N (by
     rcases h with h | h
     · rcases List.mem_cons.1 h with rfl | h
       · exact .inr (z47 s n)
       · exact .inl h
     · exact .inr (h.kill m))
theorem w1o : ∀ (N : List Nat) {s : MS} {id : Nat} {o : Obj}, (N.foldl MS.kill s).obj id = some o -> id ∉ N /\ s.obj id = some o
 | [], _, _, _, h => ⟨by simp, h⟩
 | m :: N, s, id, o, h => by
  obtain ⟨h1, h2⟩ := w1o N h
  obtain ⟨h3, h4, _⟩ := z0w h2
  exact ⟨by simp [h1, h3], h4⟩
theorem y62 {α : Type} (n : Nat) : ∀ (l m : List (Nat × α)), look n (l ++ m) = (look n l).or (look n m)
 | [], m => by simp [look]
 | (i, a) :: l, m => by
  simp only [List.cons_append, look]
  split
  ·rfl
  ·exact y62 n l m
theorem y17 {α : Type} (D : List Nat) (n : Nat) : ∀ (l : List (Nat × α)), look n (l.filter fun p => !D.contains p.1) = if D.contains n then none else look n l
 | [] => by simp [look]
 | (m, a) :: l => by
  rw [List.filter_cons]
  by_cases e : n = m
  ·subst e
   split
   ·rename_i h
    simp only [Bool.not_eq_true'] at h
    rw [z1m, z1m, h]; simp
   ·rename_i h
    have h : D.contains n = true := by simpa using h
    rw [y17 D n l, h]; simp
  ·split
   ·rw [z16 _ _ e, z16 _ _ e, y17 D n l]
   ·rw [z16 _ _ e, y17 D n l]
theorem yr6 (k1 : Rel Pr w0 stk s tm w G) (hP : ∀ b, Pr b -> b < w0.heap.size) {h x : Ann} (hc : x.closed = true) {D pins : List Nat} (hpl : ∀ i, i ∈ pins -> i < nnB) (hfr : ∀ t, t ∉ D -> tm'.getD t undef = tm.getD t undef) {d : zb9 x.tys}
  (k2 : Rel (yn3 w G s (h.objs.map (·.1))) { w with I0 := G.I, h0 := G.h } [] { emb x d with pin := pins } tm' w' G') : ∃ G'', Rel Pr w0 stk (s.behind D pins h x d) tm' w' G'' := by
 have hst : ∀ {id}, id ∈ pins -> G'.h id = G.h id := fun {i} hid => by
  have := k2.pin i hid
  unfold PinOk at this
  rwa [if_pos (hpl i hid)] at this
 simp only [Ann.closed, Bool.and_eq_true] at hc
 obtain ⟨hc1, hc2⟩ := hc
 have f1 : ∀ b, G.I b -> yn3 w G s (h.objs.map (·.1)) b := fun b hb => ⟨k1.isz b hb, fun id o _ ho hm => (k1.sep id o b ho hm).2.1 hb⟩
 have f2 : ∀ b, Pr b -> yn3 w G s (h.objs.map (·.1)) b := fun b hb => ⟨Nat.lt_of_lt_of_le (hP b hb) k1.keep.size, fun id o _ ho hm => (k1.sep id o b ho hm).1 hb⟩
 have f4 : ∀ b, yn3 w G s (h.objs.map (·.1)) b -> w'.heap[b]? = w.heap[b]? := fun b hb => k2.keep.block b hb
 have kk := w1p ((h.objs.map (·.1) ++ x.objs.map (·.1)).filter fun i => !(pins.contains i && (x.objs.map (·.1)).contains i)) k1
 have hmem : ∀ {i}, i ∈ h.objs.map (·.1) \/ i ∈ x.objs.map (·.1) -> ¬ (i ∈ pins /\ i ∈ x.objs.map (·.1)) -> i ∈ (h.objs.map (·.1) ++ x.objs.map (·.1)).filter fun i => !(pins.contains i && (x.objs.map (·.1)).contains i) := by
  intro i hi hs
  rw [List.mem_filter, List.mem_append]
  refine ⟨hi, ?_⟩
  rw [Bool.not_eq_true', Bool.and_eq_false_iff]
  by_cases h1 : i ∈ pins
  ·exact .inr (by rw [List.contains_eq_mem, decide_eq_false_iff_not]; exact fun h2 => hs ⟨h1, h2⟩)
  ·exact .inl (by rw [List.contains_eq_mem, decide_eq_false_iff_not]; exact h1)
 have hun : ∀ n, n ∈ (h.objs.map (·.1) ++ x.objs.map (·.1)).filter (fun i => !(pins.contains i && (x.objs.map (·.1)).contains i)) -> Unnamed (((h.objs.map (·.1) ++ x.objs.map (·.1)).filter fun i => !(pins.contains i && (x.objs.map (·.1)).contains i)).foldl MS.kill s) n := fun n hn => y7c _ (.inl hn)
 have hko : ∀ {id o}, (((h.objs.map (·.1) ++ x.objs.map (·.1)).filter fun i => !(pins.contains i && (x.objs.map (·.1)).contains i)).foldl MS.kill s).obj id = some o -> id ∉ (h.objs.map (·.1) ++ x.objs.map (·.1)).filter (fun i => !(pins.contains i && (x.objs.map (·.1)).contains i)) /\ s.obj id = some o := fun ho => w1o _ ho
 unfold MS.behind
 simp only
 generalize ((h.objs.map (·.1) ++ x.objs.map (·.1)).filter fun i => !(pins.contains i && (x.objs.map (·.1)).contains i)).foldl MS.kill s = sk at kk hun hko
 -- an object that was left alone is none of the loop's
 have f0 : ∀ {id o}, sk.obj id = some o -> id ∉ x.objs.map (·.1) -> id ∉ h.objs.map (·.1) := by
  intro id o ho hx hh
  refine (hko ho).1 (hmem (.inl hh) fun hs => hx hs.2)
 have f3 : ∀ id o b, sk.obj id = some o -> id ∉ x.objs.map (·.1) -> b ∈ G.bs id -> yn3 w G s (h.objs.map (·.1)) b := by
  intro id o b ho hx hb
  obtain ⟨hn, ho'⟩ := hko ho
  refine ⟨(k1.sep id o b ho' hb).2.2, fun id' o' hid' ho2 hm => ?_⟩
  have := k1.dis id id' o o' b ho' ho2 hb hm
  subst this
  exact f0 ho hx hid'
 let G2 : Gh := { I := fun b => G.I b \/ G'.I b, h := fun i => if i ∈ x.objs.map (·.1) then G'.h i else G.h i, bs := fun i => if i ∈ x.objs.map (·.1) then G'.bs i else G.bs i }
 have hin : ∀ {i}, i ∈ x.objs.map (·.1) -> G2.h i = G'.h i /\ G2.bs i = G'.bs i := fun hi => ⟨by simp only [G2]; rw [if_pos hi], by simp only [G2]; rw [if_pos hi]⟩
 have hout : ∀ {i}, i ∉ x.objs.map (·.1) -> G2.h i = G.h i /\ G2.bs i = G.bs i := fun hi => ⟨by simp only [G2]; rw [if_neg hi], by simp only [G2]; rw [if_neg hi]⟩
 -- what was left alone leads where it led
 have hrest : ∀ {i}, ¬ Unnamed sk i \/ i ∉ (h.objs.map (·.1) ++ x.objs.map (·.1)).filter (fun i => !(pins.contains i && (x.objs.map (·.1)).contains i)) -> G2.h i = G.h i := by
  intro i hi
  have hi : i ∉ (h.objs.map (·.1) ++ x.objs.map (·.1)).filter (fun i => !(pins.contains i && (x.objs.map (·.1)).contains i)) := hi.elim (fun h hm => h (hun i hm)) id
  by_cases hx : i ∈ x.objs.map (·.1)
  ·rw [(hin hx).1]
   by_cases hs : i ∈ pins
   ·exact hst hs
   ·exact absurd (hmem (.inr hx) fun h => hs h.1) hi
  ·exact (hout hx).1
 have hobj : ∀ id o, (MS.obj { slots := (emb x d).slots ++ sk.slots.filter (fun p => !D.contains p.1), objs := (emb x d).objs ++ sk.objs, saved := sk.saved, pin := sk.pin.filter fun i => !(x.objs.map (·.1)).contains i || pins.contains i } id) = some o ->
   ((emb x d).obj id = some o /\ look id (emb x d).objs = some (some o) /\ id ∈ x.objs.map (·.1)) \/ (sk.obj id = some o /\ id ∉ x.objs.map (·.1)) := by
  intro id o ho
  have ho : (look id ((emb x d).objs ++ sk.objs)).join = some o := ho
  rw [y62] at ho
  cases hl : look id (emb x d).objs with
  | some y =>
   rw [hl] at ho
   simp only [Option.some_or, Option.join_some] at ho
   subst ho
   have : (emb x d).obj id = some o := by unfold MS.obj; rw [hl]; rfl
   exact .inl ⟨this, rfl, w1h this⟩
  | none =>
   rw [hl] at ho
   simp only [Option.none_or] at ho
   refine .inr ⟨ho, fun hm => ?_⟩
   obtain ⟨o', ho'⟩ := ww8 (d := d) hm
   rw [hl] at ho'; cases ho'
 refine ⟨G2, ?_⟩
 exact {
   keep := k1.keep.trans k2.keep f2
   old := fun b hp hi => hi.elim (k1.old b hp) fun hi => k1.old b hp (k2.old b (f2 b hp) hi)
   isz := fun b hi => hi.elim (fun hi => Nat.lt_of_lt_of_le (k1.isz b hi) k2.keep.size) (k2.isz b)
   ob := fun id o ho => by
     rcases hobj id o ho with ⟨h1, h2, h3⟩ | ⟨h1, h3⟩
     · refine Ob.congr (G := { G' with I := G2.I }) (G' := G2) rfl (hin h3).1 (hin h3).2 (fun i hi => (hin (wc0 hc2 h2 hi)).1) ?_
       exact (k2.ob id o h1).mono (fun _ _ => rfl) (fun b hb => .inr hb) (fun _ _ => rfl)
     · refine Ob.congr (G := { G with I := G2.I }) (G' := G2) rfl (hout h3).1 (hout h3).2 (fun i hi => ?_) ?_
       · by_cases hne : id = i
         · subst hne; exact (hout h3).1
         · refine hrest (.inl fun hu => ?_)
           have := hu.objs id o h1 hne
           rw [this] at hi; cases hi
       · exact (kk.ob id o h1).mono (fun b hb => f4 b (f1 b hb)) (fun b hb => .inl hb) (fun b hb => f4 b (f3 id o b h1 h3 hb))
   sep := fun id o b ho hb => by
     rcases hobj id o ho with ⟨h1, h2, h3⟩ | ⟨h1, h3⟩
     · rw [(hin h3).2] at hb
       obtain ⟨g1, g2, g3⟩ := k2.sep id o b h1 hb
       exact ⟨fun hp => g1 (f2 b hp), fun hi => hi.elim (fun hi => g1 (f1 b hi)) g2, g3⟩
     · rw [(hout h3).2] at hb
       obtain ⟨g1, g2, g3⟩ := kk.sep id o b h1 hb
       exact ⟨g1, fun hi => hi.elim g2 fun hi => g2 (k2.old b (f3 id o b h1 h3 hb) hi), Nat.lt_of_lt_of_le g3 k2.keep.size⟩
   dis := fun id id' o o' b ho ho' hb hb' => by
     rcases hobj id o ho with ⟨h1, h2, h3⟩ | ⟨h1, h3⟩ <;> rcases hobj id' o' ho' with ⟨h1', h2', h3'⟩ | ⟨h1', h3'⟩
     · rw [(hin h3).2] at hb; rw [(hin h3').2] at hb'
       exact k2.dis id id' o o' b h1 h1' hb hb'
     · rw [(hin h3).2] at hb; rw [(hout h3').2] at hb'
       exact absurd (f3 id' o' b h1' h3' hb') (k2.sep id o b h1 hb).1
     · rw [(hout h3).2] at hb; rw [(hin h3').2] at hb'
       exact absurd (f3 id o b h1 h3 hb) (k2.sep id' o' b h1' hb').1
     · rw [(hout h3).2] at hb; rw [(hout h3').2] at hb'
       exact kk.dis id id' o o' b h1 h1' hb hb'
   slots := fun t v hv => by
     have hv : look t ((emb x d).slots ++ sk.slots.filter (fun p => !D.contains p.1)) = some v := hv
     rw [y62] at hv
     cases hl : look t (emb x d).slots with
     | some y =>
       rw [hl] at hv
       simp only [Option.some_or, Option.some.injEq] at hv
       subst hv
       refine ARd.congr (h := G'.h) (fun i hi => (hin (wc1 hc1 hl hi)).1) ?_
       exact (k2.slots t y hl).mono (fun _ _ => rfl) (fun b hb => .inr hb)
     | none =>
       rw [hl, Option.none_or, y17] at hv
       split at hv
       · cases hv
       · rename_i hD
         rw [hfr t (by simpa using hD)]
         refine ARd.congr (h := G.h) (fun i hi => hrest (.inl fun hu => ?_)) ?_
         · have := hu.slots t v hv
           rw [this] at hi; cases hi
         · exact (kk.slots t v hv).mono (fun b hb => f4 b (f1 b hb)) (fun b hb => .inl hb)
   saved := by
     refine SavedRd.imp (G := { G with I := G2.I }) (G' := G2) rfl (fun m hm t v hv i hi => hrest (.inl fun hu => ?_)) ?_
     · have := hu.saved m hm t v hv
       rw [this] at hi; cases hi
     · exact kk.saved.mono (fun b hb => f4 b (f1 b hb)) fun b hb => .inl hb
   pin := fun i hi => by
     have hi : i ∈ sk.pin.filter (fun i => decide (i < nnB) && (!(x.objs.map (·.1)).contains i || pins.contains i)) := hi
     rw [List.mem_filter, Bool.and_eq_true, Bool.or_eq_true, decide_eq_true_iff] at hi
     have hk := kk.pin i hi.1
     unfold PinOk at hk ⊢
     rw [if_pos hi.2.1] at hk ⊢
     rw [<- hk]
     rcases hi.2.2 with h1 | h1
     · exact (hout (by simpa using h1)).1
     · by_cases hx : i ∈ x.objs.map (·.1)
       · rw [(hin hx).1]; exact hst (by simpa using h1)
       · exact (hout hx).1 }
end
def v0s (D : Nat -> Prop) (Pr : Nat -> Prop) (w0 : St) (l : LSpec) (a : Act) (res : LR l.x l.r) (e : Exit) (a' : Act) (w' : World) : Prop :=
 Same D a a' /\ a'.defers = a.defers /\ ∃ G', match res with
  | .exit d => e = .exit l.xid /\ Rel Pr w0 [] { emb l.x d with pin := l.pins } a'.tmps w' G'
  | .ret d => e = .ret /\ Rel Pr w0 [] { emb l.r d with pin := l.pins } a'.tmps w' G'
section
variable {P : Program} {E : Env} {L : z1t} {path : List FuncId} {n : Nat} {Pr : Nat -> Prop} {w0 : St}
theorem w8j {ρ : Type} {k : Nat} {stk : List (Array Value)} {inl : Inl ρ} (hP : ∀ b, Pr b -> b < w0.heap.size) {c : Code}
  (hl : ∀ l, ((z6a c).bind fun r => (w1u path L).bind (look r)) = some l -> (∀ d, l.f 0 d = none) /\ (∀ m d, l.f (m + 1) d = round E L m path n c l (l.f m) d) /\
    ∀ (Pr : Nat -> Prop) (w0 : St) (m : Nat), m < k -> (∀ b, Pr b -> b < w0.heap.size) -> y9c P E L m path n Pr w0 [] (w8b E L m 6 path : Inl (LR l.x l.r)) c) :
  y9c P E L k path n Pr w0 stk inl (.loop c) := by
 intro s a w G K r hr hn h
 simp only [code] at h
 split at h
 ·cases h
 ·rename_i l hfl
  obtain ⟨h0, hs, hb⟩ := hl l hfl
  split at h
  ·rename_i hcl
   simp only [Bool.and_eq_true, List.all_eq_true, decide_eq_true_eq] at hcl
   split at h
   ·cases h
   ·rename_i s1 hs1
    split at h
    ·cases h
    ·rename_i d hd
     obtain ⟨G1, k1⟩ := w1a hr hs1
     have kin := w83 k1 hd l.pins hcl.2
     have hP' : ∀ b, yn3 w G1 s1 (l.h.objs.map (·.1)) b -> b < w.heap.size := fun b hb => hb.1
     have main : ∀ res, l.f k d = some res -> Code.rounds P c (v0s (fun t => t ∈ w32 c) (yn3 w G1 s1 (l.h.objs.map (·.1))) { w with I0 := G1.I, h0 := G1.h } l a res) k a w := by
      intro res hres
      have key : ∀ (m : Nat) (d : zb9 l.h.tys) (a' : Act) (w' : World) (G : Gh) (res : LR l.x l.r), m <= k -> Same (fun t => t ∈ w32 c) a a' -> a'.defers = a.defers -> Rel (yn3 w G1 s1 (l.h.objs.map (·.1))) { w with I0 := G1.I, h0 := G1.h } [] { emb l.h d with pin := l.pins } a'.tmps w' G -> l.f m d = some res ->
        Code.rounds P c (v0s (fun t => t ∈ w32 c) (yn3 w G1 s1 (l.h.objs.map (·.1))) { w with I0 := G1.I, h0 := G1.h } l a res) m a' w' := by
       intro m
       induction m with
       | zero => intro d a' w' G res _ _ _ _ h; rw [h0] at h; cases h
       | succ m ih =>
        intro d a1 w' G res hm hsame hdef k h
        rw [hs] at h
        unfold round at h
        rw [rounds_succ]
        refine wp_mono (hb _ { w with I0 := G1.I, h0 := G1.h } m (by omega) hP' _ a1 w' G _ res k (hsame.1.trans hn) h) fun e a' w' he => ?_
        obtain ⟨x, rfl, s', G', h1, h2, h3, h4⟩ := he
        cases x with
        | normal =>
         simp only at h4
         split at h4
         ·cases h4
         ·rename_i s1 hs1
          split at h4
          ·cases h4
          ·rename_i d1 hd1
           obtain ⟨G1, k1, hpin⟩ := y8i h1 hs1
           exact ih d1 a' w' G1 res (by omega) (hsame.trans h2) (h3.trans hdef) (yx2 k1 hd1 hpin) h4
        | exit i =>
         simp only at h4
         split at h4
         ·rename_i hi
          split at h4
          ·cases h4
          ·rename_i s1 hs1
           split at h4
           ·cases h4
           ·rename_i d1 hd1
            cases h4
            obtain ⟨G1, k1, hpin⟩ := y8i h1 hs1
            exact ⟨hsame.trans h2, h3.trans hdef, G1, by rw [hi]; rfl, yx2 k1 hd1 hpin⟩
         ·cases h4
        | ret =>
         simp only at h4
         split at h4
         ·cases h4
         ·rename_i s1 hs1
          split at h4
          ·cases h4
          ·rename_i d1 hd1
           cases h4
           obtain ⟨G1, k1, hpin⟩ := y8i h1 hs1
           exact ⟨hsame.trans h2, h3.trans hdef, G1, rfl, yx2 k1 hd1 hpin⟩
      exact key k d a w G1 res (Nat.le_refl _) (Same.refl _ _) rfl kin hres
     split at h
     ·cases h
     ·rename_i d' hf
      refine wp_mono (wp_loop_rounds k (main _ hf)) fun e a' w' ⟨h1, h2, G', h3, h4⟩ => ?_
      obtain ⟨G2, k2⟩ := yr6 k1 hP hcl.1.1 hcl.2 h1.2 h4
      exact ⟨.exit l.xid, h3, _, G2, k2, h1, h2, h⟩
     ·rename_i d' hf
      split at h
      ·refine wp_mono (wp_loop_rounds k (main _ hf)) fun e a' w' ⟨h1, h2, G', h3, h4⟩ => ?_
       obtain ⟨G2, k2⟩ := yr6 k1 hP hcl.1.2 hcl.2 h1.2 h4
       exact ⟨.ret, h3, _, G2, k2, h1, h2, h⟩
      ·cases h
  ·cases h
end
end Vm
/- z1t and regions of a function and of what is z7h in place, joined. -/
namespace Vm
open Go
def y4f : Code -> List Code
 | .seq a b => y4f a ++ y4f b
 | .cond _ a b => y4f a ++ y4f b
 | .block _ c | .scope c => y4f c
 | .loop c => c :: y4f c
 | _ => []
def w8i (c : Code) (i : Nat) : Code := (y4f c).getD i .skip
def w0z (fn : Func) : Code := fn.body.getD .skip
def v0t (E : Env) (L : z1t) (path : List FuncId) (n : Nat) (c : Code) : Prop :=
 ∀ l, ((z6a c).bind fun r => (w1u path L).bind (look r)) = some l -> (∀ d, l.f 0 d = none) /\ ∀ m d, l.f (m + 1) d = round E L m path n c l (l.f m) d
def Stepped (E : Env) (L : z1t) (path : List FuncId) (n : Nat) (c : Code) : Prop := ∀ lc, lc ∈ y4f c -> v0t E L path n lc
def w35 (P : Program) (E : Env) : Prop :=
 ∀ (L : z1t) (k : Nat) (path : List FuncId) (n : Nat) (ρ : Type) (Pr : Nat -> Prop) (w0 : St) (stk : List (Array Value)) (inl : Inl ρ) (id : Nat) (ops : Array Oper), (∀ b, Pr b -> b < w0.heap.size) -> y0p P Pr w0 inl -> y9c P E L k path n Pr w0 stk inl (.region id ops true)
def zc9 (E : Env) (L : z1t) : Prop := ∀ f fn c path, look f E.body = some fn -> fn.body = some c -> Stepped E L (f :: path) fn.ntmps c
section
variable {P : Program} {E : Env} {L : z1t}
theorem y7v (hE : EOk P E) (hS : z6j P E) (hB : y3n P E) (hD : w35 P E) (hBS : zc9 E L) : ∀ (k : Nat) {ρ : Type} (Pr : Nat -> Prop) (w0 : St) (stk : List (Array Value)) (path : List FuncId) (n : Nat) (inl : Inl ρ),
  (∀ b, Pr b -> b < w0.heap.size) -> y0p P Pr w0 inl -> ∀ (c : Code), Stepped E L path n c -> y0r (y9c P E L k path n Pr w0 stk inl) c := by
 intro k
 induction k using Nat.strongRecOn with
 | _ k ihk =>
  intro ρ Pr w0 stk path n inl hP hI c
  induction c with
  | region id ops draw =>
   intro _
   cases draw with
   | false => trivial
   | true => exact hD L k path n ρ Pr w0 stk inl id ops hP hI
  | seq a b iha ihb => exact fun h => ⟨iha fun lc hl => h lc (List.mem_append_left _ hl), ihb fun lc hl => h lc (List.mem_append_right _ hl)⟩
  | cond x a b iha ihb => exact fun h => ⟨iha fun lc hl => h lc (List.mem_append_left _ hl), ihb fun lc hl => h lc (List.mem_append_right _ hl)⟩
  | block id c ih => exact ih
  | scope c ih => exact ih
  | loop c ih =>
   intro h
   refine w8j hP fun l hl => ?_
   obtain ⟨h0, hs⟩ := h c (List.mem_cons_self ..) l hl
   refine ⟨h0, hs, fun Pr w0 m hm hP => ?_⟩
   have hI : y0p P Pr w0 (w8b E L m 6 path : Inl (LR l.x l.r)) := y8u hE hS hB hP (fun n path f fn c stk hf hc hI => ihk m hm Pr w0 stk (f :: path) fn.ntmps _ hP hI c (hBS f fn c path hf hc)) 6 path
   exact y8g hE hS hP hI c (ihk m hm Pr w0 [] path n _ hP hI c fun lc hl => h lc (List.mem_cons_of_mem _ hl))
  | _ => intro _; trivial
theorem wo1 (hE : EOk P E) (hS : z6j P E) (hB : y3n P E) (hD : w35 P E) (hBS : zc9 E L) {fid : FuncId} {fn : Func} {c : Code} {ps : List Ty} {rs : List RM}
  (hf : P.funcs[fid]? = some fn) (hc : fn.body = some c) (hst : Stepped E L [fid] fn.ntmps c) {g : yn2 ps -> Option (yo5 rs)} (hg : ∀ x r, g x = some r -> ∃ k, wi5 E L k fid fn ps rs x = some r) :
  Spec.holds P fid { ps := ps, rs := rs, f := g } := by
 intro w I vs x r hI hargs h
 obtain ⟨k, hk⟩ := hg x r h
 have hin : ∀ (Pr : Nat -> Prop) (w0 : St), (∀ b, Pr b -> b < w0.heap.size) -> y0p P Pr w0 (w8b E L k 8 [fid] : Inl (yo5 rs)) := fun Pr w0 hP =>
  y8u hE hS hB hP (fun n path f fn c stk hf hc hI => y7v hE hS hB hD hBS k Pr w0 stk (f :: path) fn.ntmps _ hP hI c (hBS f fn c path hf hc)) 8 [fid]
 exact w58 (k := k) hE hS hf hc hin (fun Pr w0 hP => y7v hE hS hB hD hBS k Pr w0 [] [fid] fn.ntmps _ hP (hin Pr w0 hP) c hst) w I vs x r hI hargs hk
def w5n (E : Env) (L : z1t) (path : List FuncId) (n : Nat) (c : Code) : Nat -> List (Nat × LSpec) -> Prop
 | i, [] => (y4f c).length = i
 | i, (r, l) :: ls => z6a (w8i c i) = some r /\ (∀ d, l.f 0 d = none) /\ (∀ m d, l.f (m + 1) d = round E L m path n (w8i c i) l (l.f m) d) /\ w5n E L path n c (i + 1) ls
theorem w2n {path : List FuncId} {n : Nat} {c : Code} : ∀ {ls : List (Nat × LSpec)} {i : Nat}, w5n E L path n c i ls -> (y4f c).length = i + ls.length /\
  ∀ j, i <= j -> j < (y4f c).length -> ∃ r l, ls[j - i]? = some (r, l) /\ z6a (w8i c j) = some r /\ (∀ d, l.f 0 d = none) /\ ∀ m d, l.f (m + 1) d = round E L m path n (w8i c j) l (l.f m) d
 | [], i, h => ⟨h, fun j h1 h2 => by have h : (y4f c).length = i := h; omega⟩
 | (r, l) :: ls, i, ⟨h1, h2, h3, h4⟩ => by
  obtain ⟨e, k⟩ := w2n h4
  refine ⟨by simp; omega, fun j hj hlt => ?_⟩
  by_cases hij : j = i
  ·subst hij; exact ⟨r, l, by simp, h1, h2, h3⟩
  ·obtain ⟨r', l', g1, g2⟩ := k j (by omega) hlt
   refine ⟨r', l', ?_, g2⟩
   rw [show j - i = (j - (i + 1)) + 1 by omega]
   exact g1
theorem yk1 {α : Type} : ∀ {l : List (Nat × α)} {j : Nat} {r : Nat} {a : α}, (l.map (·.1)).Nodup -> l[j]? = some (r, a) -> look r l = some a
 | [], j, r, a, _, h => by simp at h
 | (m, b) :: l, 0, r, a, _, h => by
  simp only [List.getElem?_cons_zero, Option.some.injEq, Prod.mk.injEq] at h
  obtain ⟨rfl, rfl⟩ := h
  exact z1m ..
 | (m, b) :: l, j + 1, r, a, hn, h => by
  simp only [List.getElem?_cons_succ] at h
  rw [List.map_cons, List.nodup_cons] at hn
  have hne : r ≠ m := by
   rintro rfl
   exact hn.1 (List.mem_map.2 ⟨(r, a), List.mem_of_getElem? h, rfl⟩)
  rw [z16 _ _ hne]
  exact yk1 hn.2 h
theorem z0h {path : List FuncId} {n : Nat} {c : Code} {ls : List (Nat × LSpec)} (hl : w1u path L = some ls) (hn : nodupB (ls.map (·.1)) = true) (h : w5n E L path n c 0 ls) : Stepped E L path n c := by
 obtain ⟨hlen, k⟩ := w2n h
 intro lc hlc l hfl
 obtain ⟨j, hj⟩ := List.getElem?_of_mem hlc
 have hlt := (List.getElem?_eq_some_iff.1 hj).1
 have hlc' : w8i c j = lc := by unfold w8i; rw [List.getD_eq_getElem?_getD, hj]; rfl
 obtain ⟨r, l', g1, g2, g3, g4⟩ := k j (Nat.zero_le _) hlt
 rw [hlc'] at g2 g4
 rw [g2, hl] at hfl
 simp only [Option.bind_some] at hfl
 have := yk1 (w6q hn) (by simpa using g1)
 rw [this] at hfl
 cases hfl
 exact ⟨g3, g4⟩
theorem z0o {path : List FuncId} {n : Nat} {c : Code} (hl : w1u path L = none) : Stepped E L path n c := by
 intro lc _ l hfl
 rw [hl] at hfl
 cases hf : z6a lc <;> simp [hf] at hfl
theorem z5g {path : List FuncId} {n : Nat} {c : Code} (h : y4f c = []) : Stepped E L path n c := by
 intro lc hl; rw [h] at hl; cases hl
end
end Vm
/- Operations that only yield a value: in whatever world, or in whatever world that grew out of this one. -/
namespace Vm
open Go
def NeverOk (P : Program) {α : Type} (s : Sem α) : Prop := ∀ w x w', s.run P w ≠ .ok x w'
def Flat (P : Program) {α : Type} (s : Sem α) : Prop := (∃ x, ∀ w, s.run P w = .ok x w) \/ NeverOk P s
section
variable {P : Program} {α β : Type}
theorem NeverOk.bind {s : Sem α} {f : α -> Sem β} (h : NeverOk P s) : NeverOk P (s >>= f) := by
 intro w x w' e
 rw [Sem.run_bind] at e
 cases hr : s.run P w with
 | ok y w1 => exact h w y w1 hr
 | halt a w1 => rw [hr] at e; cases e
theorem NeverOk.bind' {s : Sem α} {f : α -> Sem β} (h : ∀ x, NeverOk P (f x)) : NeverOk P (s >>= f) := by
 intro w x w' e
 rw [Sem.run_bind] at e
 cases hr : s.run P w with
 | ok y w1 => rw [hr] at e; exact h y w1 x w' e
 | halt a w1 => rw [hr] at e; cases e
theorem NeverOk.halt (h : Halt) : NeverOk P (Sem.halt h : Sem α) := by intro w x w' e; cases e
theorem Flat.pure (x : α) : Flat P (Pure.pure x : Sem α) := .inl ⟨x, fun _ => rfl⟩
theorem Flat.never {s : Sem α} (h : NeverOk P s) : Flat P s := .inr h
theorem Flat.stuck (m : String) : Flat P (Go.stuck m : Sem α) := .inr (NeverOk.halt _)
theorem Flat.unsupported (u : Unsupported) : Flat P (Go.unsupported u : Sem α) := .inr (NeverOk.halt _)
theorem Flat.bind {s : Sem α} {f : α -> Sem β} (h : Flat P s) (hf : ∀ x, Flat P (f x)) : Flat P (s >>= f) := by
 rcases h with ⟨x, hx⟩ | h
 ·rcases hf x with ⟨y, hy⟩ | hn
  ·exact .inl ⟨y, fun w => by rw [Sem.run_bind, hx]; exact hy w⟩
  ·refine .inr fun w y w' e => ?_
   rw [Sem.run_bind, hx] at e
   exact hn w y w' e
 ·exact .inr h.bind
theorem Flat.program : Flat P program := .inl ⟨P, fun _ => rfl⟩
theorem Flat.underlying (t : TypeId) : Flat P (underlying t) := by
 unfold Go.underlying
 refine Flat.program.bind fun p => ?_
 split
 ·exact Flat.pure _
 ·exact Flat.stuck _
theorem Flat.typeInfo (t : TypeId) : Flat P (typeInfo t) := by
 unfold Go.typeInfo
 refine Flat.program.bind fun p => ?_
 split
 ·exact Flat.pure _
 ·exact Flat.stuck _
theorem Flat.sizeOf (t : TypeId) : Flat P (sizeOf t) := by
 unfold Go.sizeOf
 exact (Flat.typeInfo t).bind fun _ => Flat.pure _
theorem Flat.isAgg (t : TypeId) : Flat P (isAgg t) := by
 unfold Go.isAgg
 refine (Flat.underlying t).bind fun d => ?_
 split <;> exact Flat.pure _
theorem Flat.asIntOf (v : Value) : Flat P (asIntOf v) := by
 unfold Go.asIntOf
 split
 ·exact Flat.pure _
 ·exact Flat.unsupported _
 ·exact Flat.stuck _
theorem Flat.asBool (v : Value) : Flat P (asBool v) := by
 unfold Go.asBool
 split
 ·exact Flat.pure _
 ·exact Flat.stuck _
theorem Flat.asAgg (v : Value) : Flat P (asAgg v) := by
 unfold Go.asAgg
 split
 ·exact Flat.pure _
 ·exact Flat.stuck _
theorem Flat.sureAddr (v : Value) : Flat P (Instr.sureAddr v) := by
 unfold Instr.sureAddr
 split
 ·exact Flat.pure _
 ·exact Flat.stuck _
theorem z66 (e : RuntimeError) : NeverOk P (runtimePanic e : Sem α) := by
 unfold runtimePanic
 refine NeverOk.bind' fun p => ?_
 cases e <;> dsimp only <;> first
  | exact NeverOk.halt _
  | exact NeverOk.bind' fun _ => NeverOk.bind' fun _ => NeverOk.halt _
theorem y90 (k : IntKind) (x y : Int) (c : BoundsCode) : NeverOk P (boundsPanic k x y c : Sem α) := by
 unfold boundsPanic
 extract_lets jp
 split <;> exact NeverOk.bind' fun _ => z66 _
theorem Flat.bounds (k : IntKind) (x y : Int) (c : BoundsCode) : Flat P (boundsPanic k x y c : Sem α) := .inr (y90 k x y c)
theorem Flat.asAddr (v : Value) : Flat P (asAddr v) := by
 unfold Go.asAddr
 split
 ·exact Flat.pure _
 ·exact .inr (z66 _)
 ·exact Flat.stuck _
theorem Flat.part (t : TypeId) (cs : Array Value) (off : Nat) : Flat P (part t cs off) := by
 unfold Go.part
 refine (Flat.isAgg t).bind fun b => ?_
 split
 ·exact (Flat.sizeOf t).bind fun _ => Flat.pure _
 ·split
  ·exact Flat.pure _
  ·exact Flat.stuck _
theorem Flat.indexAt (t : TypeId) (x i : Value) : Flat P (Instr.indexAt t x i) := by
 unfold Instr.indexAt
 refine (Flat.asIntOf i).bind fun ⟨k, i⟩ => ?_
 refine Flat.bind (Flat.underlying t) fun d => ?_
 extract_lets jp
 have hjp : ∀ q, Flat P (jp q) := by
  intro ⟨base, len, elem⟩
  simp only [jp]
  refine Flat.bind (Flat.underlying t) fun d => ?_
  have tail : ∀ tiny : Bool, Flat P (match base with
      | some a => if 0 <= i /\ i < (len : Int) then Go.sizeOf elem >>= fun z => Pure.pure (Value.pointer (some (a.add (i.toNat * z))))
        else if tiny = true then Go.unsupported (.noEntry "op/indexAddr.an index out of range at an array of length 0 or 1 (ledger 616)")
        else boundsPanic k i len .index
      | none => boundsPanic k i 0 .index : Sem Value) := by
   intro tiny
   split
   ·split
    ·exact Flat.bind (Flat.sizeOf _) fun _ => Flat.pure _
    ·split
     ·exact Flat.unsupported _
     ·exact Flat.bounds ..
   ·exact Flat.bounds ..
  exact tail _
 split
 ·refine Flat.bind (Flat.sureAddr _) fun _ => ?_
  exact Flat.bind (Flat.pure _) hjp
 ·exact Flat.bind (Flat.pure _) hjp
 ·exact .inr (NeverOk.bind (NeverOk.halt _))
theorem Flat.sliceBound (x : Value) (y : Nat) (c : BoundsCode) : Flat P (Instr.sliceBound x y c) := by
 unfold Instr.sliceBound
 refine (Flat.asIntOf x).bind fun ⟨k, i⟩ => ?_
 show Flat P (if _ then _ else _)
 split
 ·exact Flat.pure _
 ·exact Flat.bounds ..
theorem Flat.sliceBounds (b : Bool) (n c : Nat) (lo hi mx : Option Value) : Flat P (Instr.sliceBounds b n c lo hi mx) := by
 unfold Instr.sliceBounds
 extract_lets j1
 have h1 : ∀ m, Flat P (j1 m) := by
  intro m
  unfold j1
  extract_lets j2
  have h2 : ∀ h, Flat P (j2 h) := by
   intro h
   unfold j2
   extract_lets j3
   have h3 : ∀ l, Flat P (j3 l) := fun l => Flat.pure _
   split
   ·exact Flat.bind (Flat.sliceBound ..) h3
   ·exact Flat.bind (Flat.pure _) h3
  split
  ·exact Flat.bind (Flat.sliceBound ..) h2
  ·exact Flat.bind (Flat.sliceBound ..) h2
  ·exact Flat.bind (Flat.pure _) h2
  ·exact Flat.bind (Flat.stuck _) h2
 split
 ·exact Flat.bind (Flat.sliceBound ..) h1
 ·exact Flat.bind (Flat.pure _) h1
theorem Flat.slice (t : TypeId) (x : Value) (lo hi mx : Option Value) : Flat P (Instr.slice t x lo hi mx) := by
 unfold Instr.slice
 refine Flat.bind (Flat.underlying t) fun d => ?_
 split
 ·extract_lets jp
  have hjp : ∀ u, Flat P (jp u) := fun u => Flat.bind (Flat.sliceBounds ..) fun q => Flat.pure _
  split
  ·exact .inr (NeverOk.bind (NeverOk.halt _))
  ·exact hjp ()
 ·exact Flat.bind (Flat.sliceBounds ..) fun q => Flat.bind (Flat.sizeOf _) fun _ => Flat.pure _
 ·refine Flat.bind (Flat.asAddr _) fun _ => Flat.bind (Flat.underlying _) fun d => ?_
  split
  ·exact Flat.bind (Flat.sliceBounds ..) fun q => Flat.bind (Flat.sizeOf _) fun _ => Flat.pure _
  ·exact Flat.stuck _
 ·exact Flat.stuck _
theorem Flat.sliceAt (t : TypeId) (x : Value) (lo hi mx : Option Value) : Flat P (Instr.sliceAt t x lo hi mx) := by
 unfold Instr.sliceAt
 refine (Flat.underlying t).bind fun d => ?_
 split
 ·exact Flat.bind (Flat.sureAddr _) fun _ => Flat.bind (Flat.sliceBounds ..) fun q => Flat.bind (Flat.sizeOf _) fun _ => Flat.pure _
 ·exact Flat.slice ..
theorem Flat.index (t : TypeId) (x i : Value) : Flat P (Instr.index t x i) := by
 unfold Instr.index
 refine (Flat.asIntOf i).bind fun ⟨k, i⟩ => Flat.bind (Flat.underlying t) fun d => ?_
 split
 ·split
  ·exact Flat.bind (Flat.sizeOf _) fun _ => Flat.part ..
  ·exact Flat.bounds ..
 ·split
  ·exact Flat.pure _
  ·exact Flat.bounds ..
 ·exact Flat.stuck _
theorem Flat.field (t : TypeId) (x : Value) (i : Nat) : Flat P (Instr.field t x i) := by
 unfold Instr.field
 refine (Flat.underlying t).bind fun d => ?_
 split
 ·split
  ·exact (Flat.asAgg _).bind fun _ => Flat.part ..
  ·exact Flat.stuck _
 ·exact Flat.stuck _
theorem Flat.extract (x : Value) (i : Nat) : Flat P (Instr.extract x i) := by
 unfold Instr.extract
 split
 ·split
  ·exact Flat.pure _
  ·exact Flat.stuck _
 ·exact Flat.stuck _
theorem zo7 {s : Sem Value} (h : Flat P s) : (∃ x, ∀ w, (do Pure.pure (Next.value (<- s)) : Sem Next).run P w = .ok (.value x) w) \/ NeverOk P (do Pure.pure (Next.value (<- s)) : Sem Next) := by
 rcases h with ⟨x, hx⟩ | h
 ·exact .inl ⟨x, fun w => by rw [Sem.run_bind, hx]; rfl⟩
 ·exact .inr h.bind
end
theorem Flat.mapM {P : Program} {α β : Type} {f : α -> Sem β} (h : ∀ x, Flat P (f x)) : ∀ l : List α, Flat P (l.mapM f)
 | [] => by rw [List.mapM_nil]; exact Flat.pure _
 | x :: l => by
  rw [List.mapM_cons]
  exact (h x).bind fun _ => (Flat.mapM h l).bind fun _ => Flat.pure _
theorem Flat.zeroValue {P : Program} (t : TypeId) : Flat P (zeroValue t) := by
 unfold Go.zeroValue
 refine (Flat.typeInfo t).bind fun i => ?_
 split
 ·exact Flat.pure _
 ·exact Flat.unsupported _
theorem Flat.build {P : Program} (t : TypeId) (ps : Array (Nat × Value)) : Flat P (Instr.build t ps) := by
 unfold Instr.build
 refine (Flat.zeroValue t).bind fun z => ?_
 refine (Flat.underlying t).bind fun d => ?_
 split
 ·rename_i fields
  rw [Array.mapM_eq_mapM_toList]
  refine Flat.bind (Flat.bind (Flat.mapM (fun f => (Flat.sizeOf _).bind fun _ => Flat.pure _) _) fun _ => Flat.pure _) fun pl => ?_
  split
  ·exact Flat.pure _
  ·exact Flat.stuck _
 ·refine (Flat.sizeOf _).bind fun n => ?_
  split
  ·exact Flat.pure _
  ·exact Flat.stuck _
 ·exact Flat.stuck _
def y1n (o : Oper) : Bool :=
 match o.op with
 | .move _ | .assign _ | .pick _ _ _ | .slice _ _ _ _ _ | .field _ _ _ | .indexAddr _ _ _ | .index _ _ _ | .extract _ _ => true
 | .build _ _ => true
 | _ => false
theorem wx7 {P : Program} (ρ : Operand -> Value) {o : Oper} (h : y1n o = true) : (∃ x, ∀ w, (execOp ρ o).run P w = .ok (.value x) w) \/ NeverOk P (execOp ρ o) := by
 unfold y1n at h
 split at h
 ·rename_i ho; unfold execOp; simp only [ho]; exact .inl ⟨_, fun _ => rfl⟩
 ·rename_i ho; unfold execOp; simp only [ho]; exact .inl ⟨_, fun _ => rfl⟩
 ·rename_i c a b ho
  unfold execOp; simp only [ho]
  rcases Flat.asBool (P := P) (ρ c) with ⟨x, hx⟩ | h
  ·exact .inl ⟨if x then ρ a else ρ b, fun w => by rw [Sem.run_bind, hx]; rfl⟩
  ·exact .inr h.bind
 ·rename_i ho; unfold execOp; simp only [ho]; exact zo7 (Flat.sliceAt ..)
 ·rename_i ho; unfold execOp; simp only [ho]; exact zo7 (Flat.field ..)
 ·rename_i ho; unfold execOp; simp only [ho]; exact zo7 (Flat.indexAt ..)
 ·rename_i ho; unfold execOp; simp only [ho]; exact zo7 (Flat.index ..)
 ·rename_i ho; unfold execOp; simp only [ho]; exact zo7 (Flat.extract ..)
 ·rename_i ho; unfold execOp; simp only [ho]; exact zo7 (Flat.build ..)
 ·cases h
section
variable {ρ : Type} {P : Program} {E : Env} {Pr : Nat -> Prop} {w0 : St} {w : World} {stk : List (Array Value)} {s : MS} {a : Act} {G : Gh} {o : Oper} {K : AV -> MS -> Option ρ} {r : ρ}
def YV (P : Program) (o : Oper) (a : Act) (w : World) (any : Bool) (x : Value) : Prop := ∀ w2, (any = true \/ Grow w w2) -> (execOp a.eval o).run P w2 = .ok (.value x) w2
theorem z6w (h : y1n o = true) {N : Act -> World -> Prop} (hw : o.wp P a w N (fun _ _ _ => False)) : ∃ x, YV P o a w true x := by
 rcases wx7 (P := P) a.eval h with ⟨x, hx⟩ | hn
 ·exact ⟨x, fun w2 _ => hx w2⟩
 ·unfold Oper.wp at hw
  cases hr : (execOp a.eval o).run P w with
  | ok n w' => exact absurd hr (hn w n w')
  | halt x w' => rw [hr] at hw; cases x <;> exact hw.elim
theorem w0y (hE : EOk P E) (k : Rel Pr w0 stk s a.tmps w G) {op : BinOp} {t : TypeId} {x y : Operand} {yt : TypeId} (ho : o.op = .binOp op t x y yt)
  (h : w9t E s op t x y (fun v => K v s) = some r) : ∃ z, YV P o a w true z := by
 have kx := k.ev x
 have ky := k.ev y
 unfold w9t at h
 split at h
 ·rename_i k1 n1 k2 n2 e1 e2
  rw [e1] at kx; rw [e2] at ky
  have vx := z4x kx
  have vy := z4x ky
  have key : ∀ (z : Value), (∀ w, (Go.binOp op t (.int k1 n1) (.int k2 n2)).run P w = .ok z w) -> ∃ z, YV P o a w true z :=
   fun z h1 => ⟨z, fun w2 _ => z41 ho (by rw [vx]; intro e; cases e) (by rw [vx]; intro cs e; cases e) (by rw [vx, vy]; exact h1 w2)⟩
  split at h
  ·split at h
   ·cases h
   ·rename_i hb
    exact key (.int k1 (k1.wrap (n1 * 2 ^ (min n2.toNat k1.bits)))) (by intro w; simp [Go.binOp, Op.shift, hb])
  ·split at h
   ·cases h
   ·rename_i hb
    exact key (.int k1 (n1.fdiv (2 ^ (min n2.toNat k1.bits)))) (by intro w; simp [Go.binOp, Op.shift, hb])
  ·rename_i hs hs'
   split at h
   ·rename_i e
    subst e
    obtain ⟨z, v, h1, _, _⟩ := w1n (P := P) (K := fun v => K v s) (fun e => hs e) (fun e => hs' e) h t w G.I G.h
    exact key z h1
   ·cases h
 ·rename_i x' y' e1 e2
  rw [e1] at kx; rw [e2] at ky
  have vx := y14 kx
  have vy := y14 ky
  obtain ⟨z, v, h1, _, _⟩ := w2p (P := P) (K := fun v => K v s) h t w G.I G.h
  exact ⟨z, fun w2 _ => z41 ho (by rw [vx]; intro e; cases e) (by rw [vx]; intro cs e; cases e) (by rw [vx, vy]; exact h1 w2)⟩
 ·rename_i b1' b2' e1 e2
  rw [e1] at kx; rw [e2] at ky
  have vx := zi5 kx
  have vy := zi5 ky
  split at h
  ·rename_i ht
   have hu := w7f hE ht
   split at h
   ·exact ⟨_, fun w2 _ => z41 ho (by rw [vx]; intro e; cases e) (by rw [vx]; intro cs e; cases e) (by rw [vx, vy]; exact (yd3 hu).1)⟩
   ·exact ⟨_, fun w2 _ => z41 ho (by rw [vx]; intro e; cases e) (by rw [vx]; intro cs e; cases e) (by rw [vx, vy]; exact (yd3 hu).2)⟩
   ·cases h
  ·cases h
 ·rename_i u v _ _ _ e1 e2
  rw [e1] at kx
  split at h
  ·cases h
  ·rename_i ti ht
   split at h
   ·rename_i hc
    split at h
    ·rename_i b hn
     exact ⟨.bool b, fun w2 _ => let q := y7y hE k ht hn hc kx.2 w2; z41 ho q.2.2.1 q.2.2.2 q.1⟩
    ·rename_i b hn
     exact ⟨.bool (!b), fun w2 _ => let q := y7y hE k ht hn hc kx.2 w2; z41 ho q.2.2.1 q.2.2.2 q.2.1⟩
    ·cases h
   ·cases h
 ·rename_i n kk xs n' kk' ys e1 e2
  rw [e1] at kx; rw [e2] at ky
  obtain ⟨C, vx, hx⟩ := kx
  obtain ⟨D, vy, hy⟩ := ky
  split at h
  ·rename_i m e hk
   split at h
   ·rename_i hc
    obtain ⟨rfl, rfl, rfl, he⟩ := hc
    obtain ⟨g1, g2, g3⟩ := w2g hE hk he hx hy op x y
    split at h
    ·exact ⟨_, fun w2 _ => z5x ho (by rw [vx, vy]; exact g1 w2) (by rw [vx, vy]; exact g2 w2)⟩
    ·exact ⟨_, fun w2 _ => z5x ho (by rw [vx, vy]; exact g1 w2) (by rw [vx, vy]; exact g3 w2)⟩
    ·cases h
   ·cases h
  ·cases h
 ·rename_i l l' _ e1 e2
  rw [e1] at kx; rw [e2] at ky
  obtain ⟨xs, vx, hx⟩ := kx
  obtain ⟨ys, vy, hy⟩ := ky
  split at h
  ·rename_i fs hk
   split at h
   ·rename_i hi
    split at h
    ·rename_i hl
     split at h
     ·rename_i b he
      obtain ⟨g1, g2, g3⟩ := w73 hE hk hi hl he hx hy op x y
      split at h
      ·exact ⟨.bool b, fun w2 _ => z5x ho (by rw [vx, vy]; exact g1 w2) (by rw [vx, vy]; exact g2 w2)⟩
      ·exact ⟨.bool (!b), fun w2 _ => z5x ho (by rw [vx, vy]; exact g1 w2) (by rw [vx, vy]; exact g3 w2)⟩
      ·cases h
     ·cases h
    ·cases h
   ·cases h
  ·cases h
 ·cases h
end
end Vm
/- Operations that only yield a value, joined; operations that only make new blocks. -/
namespace Vm
open Go
section
variable {ρ : Type} {P : Program} {E : Env} {Pr : Nat -> Prop} {w0 : St} {w : World} {stk : List (Array Value)} {s : MS} {a : Act} {G : Gh} {o : Oper} {K : AV -> MS -> Option ρ} {r : ρ}
theorem w5h (k : Rel Pr w0 stk s a.tmps w G) {op : UnOp} {t : TypeId} {x : Operand} (ho : o.op = .unOp op t x) (h : v27 s op x (fun v => K v s) = some r) : ∃ z, YV P o a w true z := by
 have kx := k.ev x
 have key : ∀ (z : Value), (∀ w, (Op.unary op (a.eval x)).run P w = .ok z w) -> ∃ z, YV P o a w true z := fun z h1 =>
  ⟨z, fun w2 _ => by unfold execOp; simp only [ho, Sem.run_bind, h1 w2, Result.andThen_ok, Sem.run_pure]⟩
 unfold v27 at h
 split at h
 ·rename_i b e; rw [e] at kx; have vx := zi5 kx
  exact key (.bool !b) (fun w => by rw [vx]; rfl)
 ·rename_i kk n e; rw [e] at kx; have vx := z4x kx
  exact key (.int kk (kk.wrap (0 - n))) (fun w => by rw [vx]; rfl)
 ·rename_i kk n e; rw [e] at kx; have vx := z4x kx
  exact key (.int kk (yc1 .xor kk (if kk.signed then -1 else kk.max) n)) (fun w => by rw [vx]; rfl)
 ·cases h
theorem yk8 (k : Rel Pr w0 stk s a.tmps w G) {x : Operand} (ho : o.op = .nilCheck x)
  (h : (match s.ev x with | .one .nilp => none | .one (.pbox i j) => K (.one (.pbox i j)) s | .one (.pbuf i t j p) => K (.one (.pbuf i t j p)) s | .one (.pgrd i t j) => K (.one (.pgrd i t j)) s | .one (.prow i t j k) => K (.one (.prow i t j k)) s | .one (.pimm t x) => K (.one (.pimm t x)) s | .one (.val (.ptr t) x) => K (.one (.pimm t x)) s | _ => none) = some r) :
  ∃ z, YV P o a w true z := by
 have kx := k.ev x
 have key : ∀ A, a.eval x = .pointer (some A) -> ∃ z, YV P o a w true z := by
  intro A e; refine ⟨a.eval x, fun w2 _ => ?_⟩; unfold execOp; simp only [ho, e]; rfl
 split at h
 ·cases h
 ·rename_i e; rw [e] at kx
  obtain ⟨b, h1, h2⟩ := kx.2
  simp only [List.cons.injEq, and_true] at h2
  exact key _ h2
 ·rename_i e; rw [e] at kx
  obtain ⟨_, b, n, c, q, u, h1, _, _, h2⟩ := kx.2
  simp only [List.cons.injEq, and_true] at h2
  exact key _ h2
 ·rename_i e; rw [e] at kx
  obtain ⟨_, b, n, c, R, h1, _, h2⟩ := kx.2
  simp only [List.cons.injEq, and_true] at h2
  exact key _ h2
 ·rename_i e; rw [e] at kx
  obtain ⟨_, _, o, hs, b, n, c, h1, _, _, h2⟩ := kx.2
  simp only [List.cons.injEq, and_true] at h2
  exact key _ h2
 ·rename_i e; rw [e] at kx
  obtain ⟨q, C, E', fz, h2, _⟩ := kx.2
  simp only [List.cons.injEq, and_true] at h2
  exact key _ h2
 ·rename_i e; rw [e] at kx
  obtain ⟨q, C, E', fz, h2, _⟩ := kx.2
  simp only [List.cons.injEq, and_true] at h2
  exact key _ h2
 ·cases h
theorem w8f (hE : EOk P E) (k : Rel Pr w0 stk s a.tmps w G) {c : Call} {x : Operand} {t : TypeId} {ts : List TypeId} (ho : o.op = .call c) (hc : c.callee = .builtin .len) (hx : c.args.toList = [x])
  (ht : c.argTypes.toList = t :: ts) (h : (match v1m E s t (s.ev x) with | some n => K (i1 .i64 n) s | none => none) = some r) : ∃ z, YV P o a w true z := by
 split at h
 ·rename_i n hn
  refine ⟨.int .i64 n, fun w2 _ => z40 ho hc fun _ => ?_⟩
  have ht' : c.argTypes = (t :: ts).toArray := by rw [<- ht]
  simp only [Go.builtin, Sem.run_bind, wv6 hx, ht', w6i hE k (k.ev x) hn w2, Result.andThen_ok, Sem.run_pure]
 ·cases h
theorem w21 (k : Rel Pr w0 stk s a.tmps w G) {c : Call} {x y : Operand} {m : Bool} (ho : o.op = .call c) (hc : c.callee = .builtin (if m then .max else .min)) (hx : c.args.toList = [x, y])
  (h : mm m s x y K = some r) : ∃ z, YV P o a w true z := by
 have kx := k.ev x
 have ky := k.ev y
 unfold mm at h
 split at h
 ·rename_i k1 n1 k2 n2 e1 e2
  rw [e1] at kx; rw [e2] at ky
  have vx := z4x kx
  have vy := z4x ky
  split at h
  ·rename_i e
   subst e
   cases m
   ·simp only [Bool.false_eq_true, if_false] at h hc
    refine ⟨.int k1 (if n2 < n1 then n2 else n1), fun w2 _ => z40 ho hc fun _ => ?_⟩
    simp [Go.builtin, yw0 hx, vx, vy, Builtin.min_, Builtin.min2]
   ·simp only [if_true] at h hc
    refine ⟨.int k1 (if n2 > n1 then n2 else n1), fun w2 _ => z40 ho hc fun _ => ?_⟩
    simp [Go.builtin, yw0 hx, vx, vy, Builtin.max_, Builtin.max2]
  ·cases h
 ·cases h
theorem yc7 (hE : EOk P E) (k : Rel Pr w0 stk s a.tmps w G) {t : TypeId} {x : Operand} {i : Nat} (ho : o.op = .fieldAddr t x i)
  (h : (match E.kd? t, E.ty? t with
  | some (.st fs), some u => match E.fieldAt fs i with
    | some (n, t') => if (E.sz t').getD 0 = 0 then none else match s.ev x with
      | .one (.pbox id off) => K (.one (.pbox id (off + n))) s
      | .one (.pbuf id v k p) => match zc7 v p with
        | some (_, u') => if u' = u then K (.one (.pbuf id v k (p ++ [(fs.length, i)]))) s else none
        | none => none
      | .one (.pimm v y) => if v = u then (match zq9 v y fs.length i with
        | some ⟨u', x'⟩ => K (.one (.pimm u' x')) s
        | none => none) else none
      | _ => none
    | none => none
  | _, _ => none) = some r) : ∃ z, YV P o a w true z := by
 have kx := k.ev x
 split at h
 ·rename_i fs u hkd hty
  obtain ⟨ti, ht, hk⟩ := ze3 hkd
  split at h
  ·rename_i n t' hf
   split at h
   ·cases h
   ·rename_i hz
    have key : ∀ {b off : Nat}, a.eval x = .pointer (some ⟨b, off, none⟩) -> ∃ z, YV P o a w true z := fun {b off} h2 =>
     ⟨_, fun w2 _ => (z9t (w := w2) hE ho ht hk hf hz h2).1⟩
    split at h
    ·rename_i id off ex
     rw [ex] at kx
     obtain ⟨b, h1, h2⟩ := kx.2
     simp only [List.cons.injEq, and_true] at h2
     exact key h2
    ·rename_i id v j p ex
     rw [ex] at kx
     obtain ⟨i0, b, m, c, q', u2, h1, h2, h3, h4⟩ := kx.2
     simp only [List.cons.injEq, and_true] at h4
     exact key h4
    ·rename_i v y ex
     rw [ex] at kx
     obtain ⟨A, C, T, fz, h2, hsp, _⟩ := kx.2
     simp only [List.cons.injEq, and_true] at h2
     obtain ⟨ab, aoff, asp⟩ := A
     simp only at hsp
     subst hsp
     exact key h2
    ·cases h
  ·cases h
 ·cases h
theorem yo4 (hE : EOk P E) (k : Rel Pr w0 stk s a.tmps w G) {src dst : TypeId} {x : Operand} (ho : o.op = .convert src dst x) {kk : IntKind} (hd : E.ty? dst = some (.int kk)) (h : y73 E s src dst x K = some r) :
  ∃ z, YV P o a w true z := by
 unfold y73 at h
 simp only [hd] at h
 have hdu := ym3 hE hd
 split at h
 ·rename_i k' n he
  split at h
  ·rename_i hs
   obtain ⟨d, hsu⟩ := yz7 hE hs
   have hx : a.eval x = .int k' n := z4x (he ▸ k.ev x)
   refine ⟨.int kk (kk.wrap n), fun w2 _ => ?_⟩
   have hy : (Go.convert src dst (a.eval x)).run P w2 = .ok (.int kk (kk.wrap n)) w2 := by
    unfold Go.convert
    simp [z2q hsu, z2q hdu, hx, Conv.intToInt]
   unfold execOp
   simp only [ho, Sem.run_bind, hy, Result.andThen_ok, Sem.run_pure]
  ·cases h
 ·cases h
theorem yk0 (hE : EOk P E) {t : TypeId} {x : Operand} (ho : o.op = .load t x) {u : Ty} (ht : E.ty? t = some u) {b off : Nat} {C : Array Value} {T : TypeId} {fz : Nat × Nat} (e1 : a.eval x = .pointer (some ⟨b, off, none⟩))
  (e2 : w.heap[b]? = some (.cells C T fz)) (e3 : off + u.sz <= C.size) (e4 : ∀ c ∈ (C.toList.drop off).take u.sz, cell1 c = true) : ∃ z, YV P o a w false z := by
 obtain ⟨z, g1, g2, g3⟩ := zb0 (w := w) hE ht e2 e3 e4
 have hb : b < w.heap.size := (Array.getElem?_eq_some_iff.1 e2).1
 refine ⟨z, fun w2 hw => ?_⟩
 have hg : Grow w w2 := hw.resolve_left (by simp)
 obtain ⟨z2, q1, q2, q3⟩ := zb0 (w := w2) hE ht ((hg.block b hb).trans e2) e3 e4
 have : z2 = z := by
  rw [<- g2] at q2
  cases hg : u.agg <;> simp only [hg, if_true, if_false, Bool.false_eq_true] at g3 q3
  ·rw [z34 g3, z34 q3] at q2
   simpa using q2
  ·obtain ⟨cs, rfl⟩ := g3
   obtain ⟨cs2, rfl⟩ := q3
   simp only [Value.cells] at q2
   rw [Array.toList_inj.1 q2]
 subst this
 exact y11 ho e1 q1
theorem w4n (hE : EOk P E) (k : Rel Pr w0 stk s a.tmps w G) {t : TypeId} {x : Operand} {nm : Nat} (ho : o.op = .load t x)
  (h : (match s.ev x, E.ty? t with
  | .one p, some u => match yy2 s u p with
    | some l => K (zi6 u l) s
    | none => y3u s nm u p K
  | _, _ => none) = some r) : ∃ z, YV P o a w false z := by
 have kx := k.ev x
 split at h
 ·rename_i p u ex ht
  rw [ex] at kx
  split at h
  ·rename_i l hl
   obtain ⟨b, off, C, T, fz, e1, e2, e3, e4⟩ := wf3 k hl kx.2
   exact yk0 hE ho ht e1 e2 e3 e4.cell1
  ·unfold y3u at h
   split at h
   ·rename_i id t1 i _
    split at h
    ·rename_i t' xs hob
     split at h
     ·rename_i hc
      obtain ⟨rfl, rfl, hne⟩ := hc
      obtain ⟨_, i0, b, n, c, kk, uu, g1, g2, g3, g4⟩ := kx
      simp only [zc7, Option.some.injEq, Prod.mk.injEq] at g3
      obtain ⟨rfl, rfl⟩ := g3
      have hz1 : (Ty.slice t').sz = 1 := rfl
      simp only [List.cons.injEq, and_true, hz1, Nat.mul_one, Nat.add_zero] at g4
      obtain ⟨b', c', C, T, fz, rb, k1, k2, k3, k4, k5, k6, k7, k8, k9, k10⟩ := k.ob id _ hob
      rw [g1] at k1
      cases k1
      have hi : i.toNat < xs.length := by omega
      have hx : xs[i.toNat]? = some (xs.getD i.toNat []) := by rw [List.getD_eq_getElem?_getD, List.getElem?_eq_getElem hi]; rfl
      have hrow := k9 i.toNat _ hx (by simp)
      have hone := one_cell (C := C) (i := i.toNat) (by omega)
      exact yk0 hE ho ht g4 k4 (by rw [hz1]; omega) (by rw [hz1, hone]; intro c hc; rw [List.mem_singleton] at hc; rw [hc]; exact hrow.cell.1)
     ·cases h
    ·cases h
   ·cases h
 ·cases h
end
section
variable {ρ : Type} {P : Program} {E : Env} {Pr : Nat -> Prop} {w0 : St} {w : World} {stk : List (Array Value)} {s : MS} {a : Act} {G : Gh} {o : Oper} {K : AV -> MS -> Option ρ} {r : ρ}
theorem w7j (hE : EOk P E) (hS : z6j P E) (hP : ∀ b, Pr b -> b < w0.heap.size) {inl : Inl ρ} (hI : y0p P Pr w0 inl) (k : Rel Pr w0 stk s a.tmps w G) {still : Bool} (h : w96 E inl still o s K = some r)
  {any : Bool} (hy : yc E o = some any) : ∃ z, YV P o a w any z := by
 have hw := zz6 (Q := fun _ _ _ => False) hE hS hP hI k h
 unfold yc at hy
 unfold w96 at h
 split at hy
 case h_1 ho => cases hy; exact z6w (by unfold y1n; rw [ho]) hw
 case h_2 ho => cases hy; exact z6w (by unfold y1n; rw [ho]) hw
 case h_3 ho => cases hy; exact z6w (by unfold y1n; rw [ho]) hw
 case h_4 ho => cases hy; exact z6w (by unfold y1n; rw [ho]) hw
 case h_5 ho => cases hy; exact z6w (by unfold y1n; rw [ho]) hw
 case h_6 ho => cases hy; exact z6w (by unfold y1n; rw [ho]) hw
 case h_7 ho => cases hy; exact z6w (by unfold y1n; rw [ho]) hw
 case h_8 ho => cases hy; exact z6w (by unfold y1n; rw [ho]) hw
 case h_9 ho => cases hy; simp only [ho] at h; exact w0y hE k ho h
 case h_10 ho => cases hy; simp only [ho] at h; exact w5h k ho h
 case h_11 ho => cases hy; simp only [ho] at h; exact yk8 k ho h
 case h_12 ho => cases hy; simp only [ho] at h; exact yc7 hE k ho h
 case h_13 ho =>
  split at hy
  ·rename_i hd; cases hy; simp only [ho] at h; exact yo4 hE k ho hd h
  ·cases hy
 case h_14 ho => cases hy; simp only [ho] at h; exact w4n hE k ho h
 case h_15 c ho =>
  simp only [ho] at h
  split at hy
  ·rename_i hc; cases hy
   simp only [hc, builtin] at h
   split at h
   all_goals first
    | contradiction
    | (rename_i x t ts he hx ht; exact w8f hE k ho hc hx ht h)
    | cases h
  ·rename_i hc; cases hy
   simp only [hc, builtin] at h
   split at h
   all_goals first
    | contradiction
    | (rename_i x y he hx; exact w21 (m := true) k ho hc hx h)
    | cases h
  ·rename_i hc; cases hy
   simp only [hc, builtin] at h
   split at h
   all_goals first
    | contradiction
    | (rename_i x y he hx; exact w21 (m := false) k ho hc hx h)
    | cases h
  ·cases hy
 case h_16 ho => cases hy; exact z6w (by unfold y1n; rw [ho]) hw
 case h_17 => cases hy
end
end Vm
/- Operations that leave what is there as it is. -/
namespace Vm
open Go
theorem Grow.refl (w : World) : Grow w w := Keep.refl _ w
theorem Grow.trans {a b c : World} (h : Grow a b) (k : Grow b c) : Grow a c := Keep.trans h k fun _ hi => Nat.lt_of_lt_of_le hi h.size
def Grows (P : Program) {α : Type} (s : Sem α) : Prop := ∀ w x w', s.run P w = .ok x w' -> Grow w w'
section
variable {P : Program} {α β : Type}
theorem Grows.pure (x : α) : Grows P (Pure.pure x : Sem α) := by intro w y w' h; cases h; exact Grow.refl _
theorem Grows.never {s : Sem α} (h : NeverOk P s) : Grows P s := fun w x w' e => absurd e (h w x w')
theorem Grows.stuck (m : String) : Grows P (Go.stuck m : Sem α) := Grows.never (NeverOk.halt _)
theorem Grows.unsupported (u : Unsupported) : Grows P (Go.unsupported u : Sem α) := Grows.never (NeverOk.halt _)
theorem Grows.bind {s : Sem α} {f : α -> Sem β} (h : Grows P s) (hf : ∀ x, Grows P (f x)) : Grows P (s >>= f) := by
 intro w x w' e
 rw [Sem.run_bind] at e
 cases hr : s.run P w with
 | ok y w1 => rw [hr] at e; exact (h w y w1 hr).trans (hf y w1 x w' e)
 | halt a w1 => rw [hr] at e; cases e
theorem Flat.grows {s : Sem α} (h : Flat P s) : Grows P s := by
 rcases h with ⟨x, hx⟩ | h
 ·intro w y w' e; rw [hx w] at e; cases e; exact Grow.refl _
 ·exact Grows.never h
theorem Grows.newRow (t : TypeId) (C : Array Value) : Grows P (newRow t C) := by
 intro w x w' e
 rw [zc6] at e
 cases e
 exact zt6 _ _
theorem Grows.newVar (t : TypeId) (v : Value) : Grows P (newVar t v) := Grows.newRow _ _
theorem Grows.askRoom (n : Nat) : Grows P (askRoom n) := by
 unfold Go.askRoom
 split
 ·intro w x w' e
  cases e; exact Grow.refl _
 ·exact Grows.pure _
theorem Grows.build (t : TypeId) (ps : Array (Nat × Value)) : Grows P (Instr.build t ps) := by
 unfold Instr.build
 refine (Flat.zeroValue t).grows.bind fun z => (Flat.underlying t).grows.bind fun d => ?_
 split
 ·rw [Array.mapM_eq_mapM_toList]
  refine Grows.bind ?_ fun places => ?_
  ·refine Flat.grows ?_
   have := Flat.mapM (P := P) (f := fun (f : Field) => (do Pure.pure (f.offset, <- Go.sizeOf f.type) : Sem (Nat × Nat))) (fun f => Flat.bind (Flat.sizeOf _) fun _ => Flat.pure _)
   rw [map_eq_pure_bind]
   exact Flat.bind (this _) fun _ => Flat.pure _
  ·split
   ·exact Grows.pure _
   ·exact Grows.stuck _
 ·refine (Flat.sizeOf _).grows.bind fun z => ?_
  split
  ·exact Grows.pure _
  ·exact Grows.stuck _
 ·exact Grows.stuck _
theorem Grows.alloc (t : TypeId) : Grows P (Instr.alloc t true (.tuple #[])) := by
 unfold Instr.alloc
 exact (Flat.zeroValue t).grows.bind fun z => (Grows.newVar _ _).bind fun _ => Grows.pure _
theorem Grows.box (t : TypeId) (v : Value) : Grows P (Instr.box t v) := by
 unfold Instr.box
 exact (Grows.newVar _ _).bind fun _ => Grows.pure _
theorem Grows.buildSlice (t : TypeId) (n : Nat) (ps : Array (Nat × Value)) : Grows P (Instr.buildSlice t n ps) := by
 unfold Instr.buildSlice
 refine (Flat.underlying t).grows.bind fun d => ?_
 split
 ·refine (Flat.sizeOf _).grows.bind fun z => ?_
  extract_lets j2 j1
  have h2 : ∀ u, Grows P (j2 u) := by
   intro u
   unfold j2
   split
   ·exact (Grows.newRow _ _).bind fun _ => Grows.pure _
   ·exact Grows.stuck _
  have h1 : ∀ u, Grows P (j1 u) := by
   intro u
   unfold j1
   split
   ·exact Grows.bind (Grows.pure _) h2
   ·exact (Flat.zeroValue _).grows.bind fun _ => Grows.bind (Grows.pure _) h2
  split
  ·exact (Grows.unsupported _).bind fun u => h1 u
  ·exact h1 ()
 ·exact Grows.stuck _
theorem Flat.asInt (v : Value) : Flat P (asInt v) := by
 unfold Go.asInt
 exact Flat.bind (Flat.asIntOf v) fun _ => Flat.pure _
theorem Grows.makeSlice (t : TypeId) (l c : Value) : Grows P (Instr.makeSlice t l c) := by
 unfold Instr.makeSlice
 refine (Flat.underlying t).grows.bind fun d => ?_
 split
 ·refine (Flat.asInt _).grows.bind fun l => (Flat.asInt _).grows.bind fun c => (Flat.typeInfo _).grows.bind fun i => ?_
  extract_lets bytes big l c j1
  have h1 : ∀ u, Grows P (j1 u) := by
   intro u
   unfold j1
   refine (Grows.askRoom _).bind fun _ => (Flat.sizeOf _).grows.bind fun z => ?_
   extract_lets n j2
   have h2 : ∀ u, Grows P (j2 u) := by
    intro u
    exact (Grows.newRow _ _).bind fun _ => Grows.pure _
   split
   ·exact Grows.bind (Grows.pure _) h2
   ·exact (Flat.zeroValue _).grows.bind fun _ => Grows.bind (Grows.pure _) h2
  split
  ·split
   ·exact Grows.never (NeverOk.bind (z66 _))
   ·split
    ·exact Grows.never (NeverOk.bind (z66 _))
    ·exact Grows.never (NeverOk.bind' fun _ => by split <;> exact NeverOk.bind (z66 _))
  ·exact h1 ()
 ·exact Grows.stuck _
end
end Vm
/- Slices that are made in one region, in whatever order. -/
namespace Vm
open Go
structure Alike (s s' : MS) : Prop where
 slots : ∀ t, look t s.slots = look t s'.slots
 objs : ∀ id, s.obj id = s'.obj id
 saved : s.saved = s'.saved
 pin : s.pin = s'.pin
theorem Alike.refl (s : MS) : Alike s s := ⟨fun _ => rfl, fun _ => rfl, rfl, rfl⟩
theorem Alike.symm {s s' : MS} (h : Alike s s') : Alike s' s := ⟨fun t => (h.slots t).symm, fun i => (h.objs i).symm, h.saved.symm, h.pin.symm⟩
theorem Alike.trans {s s' s'' : MS} (h : Alike s s') (k : Alike s' s'') : Alike s s'' := ⟨fun t => (h.slots t).trans (k.slots t), fun i => (h.objs i).trans (k.objs i), h.saved.trans k.saved, h.pin.trans k.pin⟩
theorem Alike.get {s s' : MS} (h : Alike s s') (t : Nat) : s.get t = s'.get t := by unfold MS.get; rw [h.slots]
theorem Alike.nm {s s' : MS} (h : Alike s s') (d : Option Nat) : s.nm d = s'.nm d := by unfold MS.nm; rw [h.saved]
theorem Rel.alike {P : Nat -> Prop} {w0 : St} {w : World} {stk : List (Array Value)} {s s' : MS} {tm : Array Value} {G : Gh} (k : Rel P w0 stk s tm w G) (h : Alike s s') : Rel P w0 stk s' tm w G :=
 ⟨k.keep, k.old, k.isz, fun id o ho => k.ob id o (by rw [h.objs]; exact ho), fun id o b ho => k.sep id o b (by rw [h.objs]; exact ho),
   fun id id' o o' b ho ho' => k.dis id id' o o' b (by rw [h.objs]; exact ho) (by rw [h.objs]; exact ho'), fun t v hv => k.slots t v (by rw [h.slots]; exact hv), h.saved ▸ k.saved, fun i hi => k.pin i (by rw [h.pin]; exact hi)⟩
structure Mk where
 d : Nat
 id : Nat
 ob : Obj
def Mk.step (x : Mk) (s : MS) : MS := (s.new x.id x.ob).put (some x.d) (.one (.own x.id))
def Mk.still (x : Mk) : Prop := ∀ i, x.ob.has i = false
theorem zi0 (x : Mk) (s : MS) (t : Nat) : look t (x.step s).slots = if t = x.d then some (.one (.own x.id)) else (look t s.slots).map fun v => if v.has x.id then .undef else v := by
 unfold Mk.step MS.put MS.new MS.unpin MS.upd MS.kill
 simp only [look]
 split
 ·rfl
 ·exact zp0 x.id t s.slots
theorem y0h (x : Mk) (s : MS) (i : Nat) : (x.step s).obj i = if i = x.id then some x.ob else (s.obj i).bind fun o => if o.has x.id then none else some o := by
 have h1 : (x.step s).obj i = ((s.kill x.id).upd x.id x.ob).obj i := rfl
 rw [h1]
 unfold MS.obj MS.upd
 simp only [look]
 by_cases e : i = x.id
 ·rw [if_pos e, if_pos e]; rfl
 ·rw [if_neg e, if_neg e]
  have := z8r s x.id i
  rw [if_neg e] at this
  exact this
theorem zh9 (x : Mk) (s : MS) : (x.step s).saved = s.saved.map (y48 x.id) := rfl
theorem y3y (x : Mk) (s : MS) : (x.step s).pin = s.pin.filter (fun i => i != x.id && i != nnc x.id) := rfl
theorem yu0 (x : Mk) {s s' : MS} (h : Alike s s') : Alike (x.step s) (x.step s') :=
 ⟨fun t => by rw [zi0, zi0, h.slots], fun i => by rw [y0h, y0h, h.objs], by rw [zh9, zh9, h.saved], by rw [y3y, y3y, h.pin]⟩
theorem y0i (i : Nat) : AV.undef.has i = false := rfl
theorem wh2 (i j : Nat) : (AV.one (.own i)).has j = (i == j) := rfl
theorem we7 (a b : Nat) (l : List (Nat × AV)) : y48 a (y48 b l) = y48 b (y48 a l) := by
 unfold y48
 rw [List.map_map, List.map_map]
 apply List.map_congr_left
 intro p _
 simp only [Function.comp]
 congr 1
 by_cases h1 : p.2.has a = true
 ·by_cases h2 : p.2.has b = true
  ·simp [h1, h2, y0i]
  ·simp [h1, h2, y0i]
 ·by_cases h2 : p.2.has b = true
  ·simp [h1, h2, y0i]
  ·simp [h1, h2]
theorem wj6 (x y : Mk) (s : MS) (hd : x.d ≠ y.d) (hi : x.id ≠ y.id) (hx : x.still) (hy : y.still) : Alike (x.step (y.step s)) (y.step (x.step s)) := by
 have hi' : (y.id == x.id) = false := by simpa using fun e => hi e.symm
 have hi'' : (x.id == y.id) = false := by simpa using hi
 refine ⟨fun t => ?_, fun i => ?_, ?_, ?_⟩
 ·rw [zi0, zi0, zi0, zi0]
  by_cases h1 : t = x.d
  ·subst h1
   rw [if_pos rfl, if_neg hd, if_pos rfl, Option.map_some, wh2, hi'']
   rfl
  ·by_cases h2 : t = y.d
   ·subst h2
    rw [if_neg h1, if_pos rfl, if_pos rfl, Option.map_some, wh2, hi']
    rfl
   ·rw [if_neg h1, if_neg h2, if_neg h2, if_neg h1]
    cases look t s.slots with
    | none => rfl
    | some v =>
     simp only [Option.map_some]
     by_cases k1 : v.has x.id = true
     ·by_cases k2 : v.has y.id = true
      ·simp [k1, k2, y0i]
      ·simp [k1, k2, y0i]
     ·by_cases k2 : v.has y.id = true
      ·simp [k1, k2, y0i]
      ·simp [k1, k2]
 ·rw [y0h, y0h, y0h, y0h]
  by_cases h1 : i = x.id
  ·subst h1
   rw [if_pos rfl, if_neg hi, if_pos rfl, Option.bind_some, hx]
   rfl
  ·by_cases h2 : i = y.id
   ·subst h2
    rw [if_neg h1, if_pos rfl, if_pos rfl, Option.bind_some, hy]
    rfl
   ·rw [if_neg h1, if_neg h2, if_neg h2, if_neg h1]
    cases s.obj i with
    | none => rfl
    | some o =>
     simp only [Option.bind_some]
     by_cases k1 : o.has x.id = true
     ·by_cases k2 : o.has y.id = true
      ·simp [k1, k2]
      ·simp [k1, k2]
     ·by_cases k2 : o.has y.id = true
      ·simp [k1, k2]
      ·simp [k1, k2]
 ·rw [zh9, zh9, zh9, zh9, List.map_map, List.map_map]
  apply List.map_congr_left
  intro l _
  exact we7 _ _ _
 ·rw [y3y, y3y, y3y, y3y, List.filter_filter, List.filter_filter]
  apply List.filter_congr
  intro i _
  exact Bool.and_comm _ _
def Apart (l : List Mk) : Prop := l.Pairwise fun x y => x.d ≠ y.d /\ x.id ≠ y.id
def steps (l : List Mk) (s : MS) : MS := l.foldl (fun s x => x.step s) s
theorem ym0 : ∀ (l : List Mk) {s s' : MS}, Alike s s' -> Alike (steps l s) (steps l s')
 | [], _, _, h => h
 | x :: l, _, _, h => ym0 l (yu0 x h)
theorem w92 {l l' : List Mk} (p : l.Perm l') : ∀ (s : MS), Apart l -> (∀ x, x ∈ l -> x.still) -> Alike (steps l s) (steps l' s) := by
 induction p with
 | nil => intro s _ _; exact Alike.refl _
 | cons x _ ih => intro s ha hs; exact ih (x.step s) (List.pairwise_cons.1 ha).2 fun y hy => hs y (List.mem_cons_of_mem _ hy)
 | swap x y l =>
  intro s ha hs
  have h := (List.pairwise_cons.1 ha).1 x (List.mem_cons_self ..)
  exact ym0 l (wj6 x y s (fun e => h.1 e.symm) (fun e => h.2 e.symm) (hs x (by simp)) (hs y (by simp)))
 | trans p1 p2 ih1 ih2 =>
  intro s ha hs
  have ha2 : Apart _ := (List.Perm.pairwise_iff (R := fun x y : Mk => x.d ≠ y.d /\ x.id ≠ y.id) (fun {a b} h => ⟨fun e => h.1 e.symm, fun e => h.2 e.symm⟩) p1).1 ha
  exact (ih1 s ha hs).trans (ih2 s ha2 fun x hx => hs x (p1.mem_iff.2 hx))
end Vm
/- Regions whose order is drawn: soundness. -/
namespace Vm
open Go
theorem zh5 {P : Program} {s : Sem Value} (h : Grows P s) : ∀ w n w', (do Pure.pure (Next.value (<- s)) : Sem Next).run P w = .ok n w' -> (∃ x, n = .value x) /\ Grow w w' := by
 intro w n w' e
 rw [Sem.run_bind] at e
 cases hr : s.run P w with
 | ok y w1 => rw [hr] at e; cases e; exact ⟨⟨y, rfl⟩, h _ _ _ hr⟩
 | halt a w1 => rw [hr] at e; cases e
section
variable {ρ : Type} {P : Program} {E : Env} {Pr : Nat -> Prop} {w0 : St} {w : World} {stk : List (Array Value)} {s : MS} {a : Act} {G : Gh} {o : Oper} {Q : Exit -> Act -> World -> Prop} {K : AV -> MS -> Option ρ} {r : ρ}
theorem zb1 {N : Act -> World -> Prop} (hg : ∀ n w', (execOp a.eval o).run P w = .ok n w' -> (∃ x, n = .value x) /\ Grow w w') (h : o.wp P a w N Q) : o.wp P a w (fun a' w' => N a' w' /\ Grow w w') Q := by
 unfold Oper.wp at h ⊢
 cases hr : (execOp a.eval o).run P w with
 | ok n w' =>
  obtain ⟨⟨x, rfl⟩, hg⟩ := hg n w' hr
  rw [hr] at h
  exact ⟨h, hg⟩
 | halt x w' =>
  rw [hr] at h
  cases x <;> exact h
theorem w9x (hE : EOk P E) (hS : z6j P E) (hP : ∀ b, Pr b -> b < w0.heap.size) {inl : Inl ρ} (hI : y0p P Pr w0 inl) (k : Rel Pr w0 stk s a.tmps w G) {still : Bool} (h : w96 E inl still o s K = some r) (hc : w31 E o = true) :
  o.wp P a w (fun a' w' => zb2 Pr w0 stk o a K r a' w' /\ Grow w w') Q := by
 have hw := zz6 (Q := Q) hE hS hP hI k h
 unfold w31 at hc
 rw [Bool.or_eq_true] at hc
 rcases hc with hc | hc
 ·obtain ⟨any, hy⟩ := Option.isSome_iff_exists.1 hc
  obtain ⟨z, hz⟩ := w7j hE hS hP hI k h hy
  refine zb1 (fun n w' e => ?_) hw
  rw [hz w (.inr (Grow.refl w))] at e
  cases e
  exact ⟨⟨_, rfl⟩, Grow.refl w⟩
 ·split at hc
  ·rename_i ho
   exact zb1 (fun n w' e => zh5 (Grows.alloc _) w n w' (by unfold execOp at e; simp only [ho] at e; exact e)) hw
  ·rename_i ho
   exact zb1 (fun n w' e => zh5 (Grows.box _ _) w n w' (by unfold execOp at e; simp only [ho] at e; exact e)) hw
  ·rename_i ho
   exact zb1 (fun n w' e => zh5 (Grows.build _ _) w n w' (by unfold execOp at e; simp only [ho] at e; exact e)) hw
  ·rename_i ho
   exact zb1 (fun n w' e => zh5 (Grows.buildSlice _ _ _) w n w' (by unfold execOp at e; simp only [ho] at e; exact e)) hw
  ·rename_i ho
   exact zb1 (fun n w' e => zh5 (Grows.makeSlice _ _ _) w n w' (by unfold execOp at e; simp only [ho] at e; exact e)) hw
  ·rename_i ho
   exact zb1 (fun n w' e => zh5 (s := Instr.makeFunc _ _ _) (Grows.pure _) w n w' (by unfold execOp at e; simp only [ho] at e; exact e)) hw
  ·rename_i c ho
   split at hc
   ·rename_i g hcal
    obtain ⟨sp, hsp⟩ := Option.isSome_iff_exists.1 hc
    unfold w96 at h
    simp only [ho, hcal] at h
    have hg : s.ev (.func g) = .one (.func g) := rfl
    rw [hg] at h
    simp only at h
    obtain ⟨hl, hr⟩ := wc5 k c.args
    obtain ⟨h1, hcall⟩ := w12 hS hP k hsp hl hr h
    have hf : a.eval (.func g) = .func (.func g) #[] #[] := rfl
    have hd : (resolve a.eval c o.type).run P w = .ok { target := .fn (.func g) #[], args := #[] ++ c.args.map a.eval } w := by
     unfold resolve
     simp only [hcal, hf, Deferred.ofValue, Sem.run_pure]
    have hrun : (execOp a.eval o).run P w = .ok (.enter g (c.args.map a.eval)) w := by
     unfold execOp
     simp only [ho, Sem.run_bind, hd, Result.andThen_ok, invoke]
     unfold z7h at h1
     unfold callFunc
     split at h1
     ·rename_i fn hfn
      simp only [Bool.and_eq_true, Bool.not_eq_true'] at h1
      obtain ⟨h3, h4⟩ := h1
      have h4' : ¬ (fn.name = "runtime.NumGoroutine") := by simpa using h4
      have h3' : ¬ (fn.body = none) := by cases hb : fn.body with | none => simp [hb] at h3 | some c => simp
      simp [program, Sem.run, hfn, h4', h3']
     ·cases h1
    unfold Oper.wp
    rw [hrun, Oper.upon_enter]
    refine hcall.mono fun e w' he => ?_
    cases e with
    | returned v =>
     obtain ⟨⟨av, s', G', g1, g2, g3⟩, g4⟩ := he
     exact ⟨⟨av, s', v, G', rfl, g1, g2, g3⟩, g4⟩
    | panicked _ => exact he.1.elim
    | outgrown => exact he.1.elim
   ·cases hc
  ·cases hc
theorem zi2 (hE : EOk P E) (hS : z6j P E) (hP : ∀ b, Pr b -> b < w0.heap.size) {inl : Inl ρ} (hI : y0p P Pr w0 inl) {ops : Array Oper} {K : MS -> Option ρ} {D : Nat -> Prop} (k : Rel Pr w0 stk s a.tmps w G) {i : Nat} (hi : ops[i]? = some o)
  (hd : ∀ t, o.dst = some t -> t < a.tmps.size) (hD : ∀ t, o.dst = some t -> D t) (h : yc3 E inl ops.toList o s K = some r) :
  wpOp P ops Q i (fun a' w' => Then Pr w0 stk D a K r a' w' /\ (w31 E o = true -> Grow w w')) a w /\
  ∀ any, yc E o = some any -> ∃ v, YieldsIf P ops (fun w2 => any = true \/ Grow w w2) o v a /\ Then Pr w0 stk D a K r (a.put o.dst v) w := by
 have go : ∀ {s : MS} {still : Bool}, Rel Pr w0 stk s a.tmps w G -> w96 E inl still o s (fun v s => K (s.put o.dst v)) = some r ->
   o.wp P a w (fun a' w' => Then Pr w0 stk D a K r a' w' /\ (w31 E o = true -> Grow w w')) Q /\
   ∀ any, yc E o = some any -> ∃ v, YV P o a w any v /\ Then Pr w0 stk D a K r (a.put o.dst v) w := by
  intro s still k h
  have conv : ∀ {Q : Exit -> Act -> World -> Prop} {a' : Act} {w' : World}, zb2 Pr w0 stk o a (fun v s => K (s.put o.dst v)) r a' w' -> Then Pr w0 stk D a K r a' w' := by
   rintro Q a' w' ⟨v, s', x, G', e, k', hx, hK⟩
   subst e
   exact ⟨s'.put o.dst v, G', k'.putO (a := a) hd hx, zx0 a hD _, put_defers .., hK⟩
  constructor
  ·cases hc : w31 E o with
   | true => exact yz9 (w9x hE hS hP hI k h hc) fun a' w' ⟨h1, h2⟩ => ⟨conv (Q := Q) h1, fun _ => h2⟩
   | false => exact yz9 (zz6 hE hS hP hI k h) fun a' w' h1 => ⟨conv (Q := Q) h1, fun e => by cases e⟩
  ·intro any hy
   obtain ⟨z, hz⟩ := w7j hE hS hP hI k h hy
   have hw := zz6 (Q := fun _ _ _ => False) hE hS hP hI k h
   unfold Oper.wp at hw
   rw [hz w (.inr (Grow.refl w))] at hw
   exact ⟨z, hz, conv (Q := Q) hw⟩
 unfold yc3 at h
 unfold wpOp
 simp only [hi]
 split at h
 ·rename_i hg
  obtain ⟨h1, h2⟩ := go k h
  have hw : Region.wanted o (yielded ops a.tmps) = true := by simp [Region.wanted, hg]
  rw [hw]
  exact ⟨.inl h1, fun any hy => let ⟨v, hv, ht⟩ := h2 any hy; ⟨v, .inl ⟨hw, fun w2 hw2 => hv w2 hw2⟩, ht⟩⟩
 ·rename_i j want hg
  split at h
  ·rename_i d hj
   split at h
   ·rename_i b hb
    have kb := k.get d
    rw [hb] at kb
    have hv : a.tmps.getD d undef = .bool b := zi5 kb
    have hy : yielded ops a.tmps j = some b := by
     have hlt : d < a.tmps.size := by
      rcases Nat.lt_or_ge d a.tmps.size with h | h
      ·exact h
      ·rw [Array.getD, dif_neg (by omega)] at hv; exact absurd hv (y5d b)
     unfold yielded
     rw [Array.getElem?_toList] at hj
     rw [hj]
     have : a.tmps[d]? = some (.bool b) := by
      rw [Array.getElem?_eq_getElem hlt]; rw [Array.getD, dif_pos hlt] at hv; exact congrArg some hv
     simp [this]
    have hwt : Region.wanted o (yielded ops a.tmps) = (some b == some want) := by simp [Region.wanted, hg, hy]
    rw [hwt]
    split at h
    ·rename_i e
     obtain ⟨h1, h2⟩ := go (k.retell (d := d) (v := b1 want) (by rw [hv, e]; exact za9)) h
     have e' : (some b == some want) = true := by simp [e]
     rw [e']
     exact ⟨.inl h1, fun any hy => let ⟨v, hv, ht⟩ := h2 any hy; ⟨v, .inl ⟨hwt.trans e', fun w2 hw2 => hv w2 hw2⟩, ht⟩⟩
    ·rename_i e
     have hbw : b = !want := by
      have e : ¬ (b = want) := e
      cases b <;> cases want <;> first | rfl | exact absurd rfl e
     have e' : (some b == some want) = false := by rw [hbw]; cases want <;> rfl
     rw [e']
     have ht : Then Pr w0 stk D a K r (a.put o.dst undef) w :=
      ⟨_, G, (k.retell (d := d) (v := b1 !want) (by rw [hv, hbw]; exact za9)).putO (a := a) hd (x := undef) (v := .tup []) yy9, zx0 a hD _, put_defers .., h⟩
     exact ⟨⟨ht, fun _ => Grow.refl w⟩, fun any _ => ⟨undef, .inr ⟨hwt.trans e', rfl⟩, ht⟩⟩
   ·rename_i hb
    have hwt := yl8 k hg hj hb
    rw [hwt]
    have ht : Then Pr w0 stk D a K r (a.put o.dst undef) w := ⟨_, G, k.putO (a := a) hd (x := undef) (v := .tup []) yy9, zx0 a hD _, put_defers .., h⟩
    exact ⟨⟨ht, fun _ => Grow.refl w⟩, fun any _ => ⟨undef, .inr ⟨hwt, rfl⟩, ht⟩⟩
   ·cases h
  ·cases h
end
inductive Bef (ops : Array Oper) : Nat -> Nat -> Prop where
 | edge {j : Nat} {o : Oper} {e : Edge} : ops[j]? = some o -> e ∈ o.after -> Region.binds .any e = true -> Bef ops j e.on
 | step {j i : Nat} {o : Oper} {e : Edge} : ops[j]? = some o -> e ∈ o.after -> Region.binds .any e = true -> Bef ops e.on i -> Bef ops j i
theorem w4p (ops : Array Oper) : ∀ (j i : Nat), ((wz4 ops.toList).getD j 0).testBit i = true -> Bef ops j i := by
 -- what the rounds have put together holds of the operations that they have passed
 have inner : ∀ (es : List Edge) (acc : List Nat) (l : Nat) (i : Nat), (es.foldl (fun l e => if Region.binds .any e then (1 <<< e.on) ||| (acc.getD e.on 0 ||| l) else l) l).testBit i = true ->
   l.testBit i = true \/ ∃ e, e ∈ es /\ Region.binds .any e = true /\ (i = e.on \/ (acc.getD e.on 0).testBit i = true) := by
  intro es acc
  induction es with
  | nil => intro l i h; exact .inl h
  | cons e es ih =>
   intro l i h
   rw [List.foldl_cons] at h
   rcases ih _ i h with h | ⟨e', he', hb, h⟩
   ·split at h
    ·rename_i hb
     rw [Nat.testBit_or, Nat.testBit_or, Bool.or_eq_true, Bool.or_eq_true] at h
     rcases h with h | h | h
     ·refine .inr ⟨e, List.mem_cons_self .., hb, .inl ?_⟩
      rw [Nat.shiftLeft_eq, Nat.one_mul, Nat.testBit_two_pow, decide_eq_true_eq] at h
      exact h.symm
     ·exact .inr ⟨e, List.mem_cons_self .., hb, .inr h⟩
     ·exact .inl h
    ·exact .inl h
   ·exact .inr ⟨e', List.mem_cons_of_mem _ he', hb, h⟩
 have outer : ∀ (l : List Oper) (acc : List Nat), (∀ j, l[j]? = ops[acc.length + j]?) -> (∀ j i, (acc.getD j 0).testBit i = true -> Bef ops j i) ->
   ∀ j i, ((l.foldl (fun acc o => acc ++ [o.after.toList.foldl (fun l e => if Region.binds .any e then (1 <<< e.on) ||| (acc.getD e.on 0 ||| l) else l) 0]) acc).getD j 0).testBit i = true -> Bef ops j i := by
  intro l
  induction l with
  | nil => intro acc _ h; exact h
  | cons o l ih =>
   intro acc hl h
   rw [List.foldl_cons]
   refine ih _ (fun j => ?_) fun j i hi => ?_
   ·have := hl (j + 1)
    rw [List.getElem?_cons_succ] at this
    rw [this, List.length_append, List.length_singleton]
    congr 1; omega
   ·rw [List.getD_eq_getElem?_getD] at hi
    by_cases hj : j < acc.length
    ·rw [List.getElem?_append_left hj, <- List.getD_eq_getElem?_getD] at hi
     exact h j i hi
    ·rw [List.getElem?_append_right (by omega)] at hi
     by_cases hj0 : j - acc.length = 0
     ·rw [hj0, List.getElem?_cons_zero, Option.getD_some] at hi
      obtain rfl : j = acc.length := by omega
      have ho : ops[acc.length]? = some o := by have := hl 0; simpa using this.symm
      rcases inner _ acc 0 i hi with hi | ⟨e, he, hb, hi⟩
      ·simp at hi
      ·have he' : e ∈ o.after := by simpa using he
       rcases hi with rfl | hi
       ·exact .edge ho he' hb
       ·exact .step ho he' hb (h _ _ hi)
     ·rw [List.getElem?_eq_none (by simp; omega)] at hi
      simp at hi
 intro j i h
 exact outer ops.toList [] (fun j => by simp) (fun j i h => by simp at h) j i h
theorem y6v (ops : Array Oper) : ∀ (j i : Nat), i ∈ (yw1 ops.toList).getD j [] -> Bef ops j i := by
 intro j i h
 unfold yw1 at h
 rw [List.getD_eq_getElem?_getD, List.getElem?_map] at h
 cases hm : (wz4 ops.toList)[j]? with
 | none => rw [hm] at h; cases h
 | some m =>
  rw [hm] at h
  simp only [Option.map_some, Option.getD_some, bits, List.mem_filter] at h
  refine w4p ops j i ?_
  rw [List.getD_eq_getElem?_getD, hm]
  exact h.2
def Down (ops : Array Oper) (listed : Array Bool) : Prop :=
 ∀ k, listed.getD k false = true -> ∀ o, ops[k]? = some o -> ∀ e ∈ o.after, Region.binds .any e = true -> listed.getD e.on false = true
theorem wm7 {ops : Array Oper} {listed : Array Bool} (hd : Down ops listed) {j i : Nat} (h : Bef ops j i) : listed.getD j false = true -> listed.getD i false = true := by
 induction h with
 | edge ho he hb => exact fun hl => hd _ hl _ ho _ he hb
 | step ho he hb _ ih => exact fun hl => ih (hd _ hl _ ho _ he hb)
theorem y7x {ops : Array Oper} {listed : Array Bool} (hd : Down ops listed) {j i : Nat} (hj : j ∈ Region.ready .any ops listed) (h : Bef ops j i) : listed.getD i false = true := by
 obtain ⟨_, o, ho, hall⟩ := mem_ready.1 hj
 cases h with
 | edge ho' he hb => rw [ho] at ho'; cases ho'; exact hall _ he hb
 | step ho' he hb hr => rw [ho] at ho'; cases ho'; exact wm7 hd hr (hall _ he hb)
theorem zi4 {ops : Array Oper} {listed : Array Bool} (hd : Down ops listed) {j : Nat} (hj : j ∈ Region.ready .any ops listed) : Down ops (listed.setIfInBounds j true) := by
 intro k hk o ho e he hb
 by_cases hkj : k = j
 ·subst hkj
  obtain ⟨_, o', ho', hall⟩ := mem_ready.1 hj
  rw [ho] at ho'; cases ho'
  exact getD_set_true (hall e he hb)
 ·refine getD_set_true (hd k ?_ o ho e he hb)
  have := Go.getD_set_ne (listed := listed) (i := j) (j := k) false (Ne.symm hkj)
  rw [this] at hk
  exact hk
def y3l (P : Program) (E : Env) (ops : Array Oper) (Q : Exit -> Act -> World -> Prop) : Nat -> Array Bool -> Act -> World -> Prop
 | 0, listed, a, w => Region.ready .any ops listed = [] /\ Q .normal a w
 | fuel + 1, listed, a, w =>
  (Region.ready .any ops listed = [] -> Q .normal a w) /\
  ∀ i ∈ Region.ready .any ops listed, wpOp P ops Q i (fun a' w' => ((∀ o, ops[i]? = some o -> w31 E o = true -> Grow w w')) /\ y3l P E ops Q fuel (listed.setIfInBounds i true) a' w') a w
section
variable {P : Program} {E : Env} {ops : Array Oper} {Q : Exit -> Act -> World -> Prop}
theorem yu2 : ∀ (fuel : Nat) (listed : Array Bool) (a : Act) (w : World), y3l P E ops Q fuel listed a w -> wpAny P .any ops Q fuel listed a w
 | 0, _, _, _, h => h
 | fuel + 1, _, _, _, h => ⟨h.1, fun i hi => wpOp_mono (fun a' w' h' => yu2 fuel _ a' w' h'.2) (h.2 i hi)⟩
theorem w2z {i : Nat} {oi : Oper} {v : Value} {any : Bool} (hi : ops[i]? = some oi) (hsel : ∀ (j : Nat) (o : Oper) cs b, ops[j]? = some o -> o.op ≠ .select cs b)
  (hQ : ∀ c a w, ¬ Q (.panic c) a w) (_ : w31 E oi = true) :
  ∀ (fuel : Nat) (listed : Array Bool) (a : Act) (w : World), Down ops listed ->
   (∀ j oj, ops[j]? = some oj -> j ≠ i -> listed.getD j true = false -> ¬ Bef ops j i -> oi.apart ops oj = true /\ (any = true \/ w31 E oj = true)) ->
   i ∈ Region.ready .any ops listed -> YieldsIf P ops (fun w2 => any = true \/ Grow w w2) oi v a ->
   y3l P E ops Q fuel (listed.setIfInBounds i true) (a.put oi.dst v) w -> y3l P E ops Q (fuel + 1) listed a w := by
 intro fuel
 induction fuel with
 | zero =>
  intro listed a w _ _ hr hy H
  refine ⟨fun h => (by rw [h] at hr; cases hr), fun j hj => ?_⟩
  by_cases hji : j = i
  ·subst hji; exact hy.wpOp hi (.inr (Grow.refl w)) ⟨fun _ _ _ => Grow.refl w, H⟩
  ·have := ready_mono hj hji
   rw [H.1] at this
   cases this
 | succ fuel ih =>
  intro listed a w hdn hfree hr hy H
  refine ⟨fun h => (by rw [h] at hr; cases hr), fun j hj => ?_⟩
  by_cases hji : j = i
  ·subst hji; exact hy.wpOp hi (.inr (Grow.refl w)) ⟨fun _ _ _ => Grow.refl w, H⟩
  ·have h1 := H.2 j (ready_mono hj hji)
   obtain ⟨hjun, oj, hoj, hall⟩ := mem_ready.1 hj
   have hnot : ¬ Bef ops j i := fun hb => by
    have h1 := y7x hdn hj hb
    have h0 := (mem_ready.1 hr).1
    rcases Nat.lt_or_ge i listed.size with h' | h'
    ·simp [h'] at h0 h1; rw [h0] at h1; cases h1
    ·simp [Array.getElem?_eq_none h'] at h1
   obtain ⟨hap, hany⟩ := hfree j oj hoj hji hjun hnot
   have h2 := wpOp_putIf hoj hap (fun cs b => hsel i oi cs b hi) (fun cs b => hsel j oj cs b hoj) (fun c a w h => absurd h (hQ c _ w)) hy h1
   refine wpOp_mono (fun a' w' ⟨h3, h4, h5⟩ => ⟨h4, ih (listed.setIfInBounds j true) a' w' (zi4 hdn hj) ?_ (ready_mono hr (Ne.symm hji)) ?_ ?_⟩) h2
   ·intro k ok hk hki hun hno
    refine hfree k ok hk hki ?_ hno
    by_cases hjk : j = k
    ·subst hjk; exact hjun
    ·rw [Go.getD_set_ne true hjk] at hun; exact hun
   ·unfold YieldsIf at h3 ⊢
    refine h3.imp (fun ⟨g1, g2⟩ => ⟨g1, fun w2 hw2 => g2 w2 ?_⟩) id
    rcases hw2 with hw2 | hw2
    ·exact .inl hw2
    ·rcases hany with ha | hc
     ·exact .inl ha
     ·exact .inr ((h4 oj hoj hc).trans hw2)
   ·rw [Array.setIfInBounds_comm _ _ hji]
    exact h5
theorem w95 {i : Nat} {fuel : Nat} {listed : Array Bool} {a : Act} {w : World} (hr : Region.ready .any ops listed = [i])
  (h : wpOp P ops Q i (fun a' w' => ((∀ o, ops[i]? = some o -> w31 E o = true -> Grow w w')) /\ y3l P E ops Q fuel (listed.setIfInBounds i true) a' w') a w) : y3l P E ops Q (fuel + 1) listed a w :=
 ⟨fun h0 => (by rw [hr] at h0; cases h0), fun j hj => (by rw [hr, List.mem_singleton] at hj; subst hj; exact h)⟩
theorem w5k {listed : Array Bool} {a : Act} {w : World} (hr : Region.ready .any ops listed = []) (h : Q .normal a w) : ∀ fuel, y3l P E ops Q fuel listed a w
 | 0 => ⟨hr, h⟩
 | _ + 1 => ⟨fun _ => h, by rw [hr]; simp⟩
theorem y6z {bf : List (List Nat)} {listed : Array Bool} {i : Nat} (hb : ∀ j i, i ∈ bf.getD j [] -> Bef ops j i) (h : yd2 E ops bf listed i = true) :
  ∃ oi any, ops[i]? = some oi /\ yc E oi = some any /\ ∀ j oj, ops[j]? = some oj -> j ≠ i -> listed.getD j true = false -> ¬ Bef ops j i -> oi.apart ops oj = true /\ (any = true \/ w31 E oj = true) := by
 unfold yd2 at h
 split at h
 ·cases h
 ·rename_i oi hoi
  split at h
  ·cases h
  ·rename_i any hy
   refine ⟨oi, any, hoi, hy, fun j oj hj hji hun hno => ?_⟩
   rw [List.all_eq_true] at h
   have h1 := h j (List.mem_range.2 (Array.getElem?_eq_some_iff.1 hj).1)
   have hnb : (bf.getD j []).contains i = false := by
    cases hc : (bf.getD j []).contains i with
    | false => rfl
    | true => exact absurd (hb j i (List.contains_iff_mem.1 hc)) hno
   have hji' : (j == i) = false := by simpa using hji
   simp only [hj, hun, hnb, hji', Bool.false_or, Bool.and_eq_true, Bool.or_eq_true] at h1
   exact h1
end
theorem y67 : ∀ (l : List Nat) (listed : Array Bool), (z2r l listed).size = listed.size
 | [], _ => rfl
 | i :: l, listed => by
  show (z2r l (listed.setIfInBounds i true)).size = _
  rw [y67 l, Array.size_setIfInBounds]
theorem y66 : ∀ (l : List Nat) (listed : Array Bool) (k : Nat) (d : Bool), (z2r l listed).getD k d = if k ∈ l /\ k < listed.size then true else listed.getD k d
 | [], listed, k, d => by simp [z2r]
 | i :: l, listed, k, d => by
  show (z2r l (listed.setIfInBounds i true)).getD k d = _
  rw [y66 l, Array.size_setIfInBounds]
  by_cases hk : k < listed.size
  ·by_cases hl : k ∈ l
   ·rw [if_pos ⟨hl, hk⟩, if_pos ⟨List.mem_cons_of_mem _ hl, hk⟩]
   ·rw [if_neg (fun h => hl h.1)]
    by_cases hi : k = i
    ·subst hi
     rw [if_pos ⟨List.mem_cons_self .., hk⟩]
     simp [Array.getD, hk]
    ·rw [if_neg (fun h => by rcases List.mem_cons.1 h.1 with h | h; exact hi h; exact hl h), Go.getD_set_ne d (Ne.symm hi)]
  ·rw [if_neg (fun h => hk h.2), if_neg (fun h => hk h.2)]
   simp [Array.getD, hk]
theorem w5a {l l' : List Nat} {listed : Array Bool} (h : ∀ k, k ∈ l ↔ k ∈ l') : z2r l listed = z2r l' listed := by
 apply Array.ext
 ·rw [y67, y67]
 ·intro k h1 h2
  have e1 := y66 l listed k false
  have e2 := y66 l' listed k false
  rw [Array.getD, dif_pos h1] at e1
  rw [Array.getD, dif_pos h2] at e2
  have e1 : (z2r l listed)[k] = _ := e1
  have e2 : (z2r l' listed)[k] = _ := e2
  rw [e1, e2]
  simp only [h k]
def w33 (E : Env) (s : MS) (o : Oper) (x : Mk) : Prop :=
 ∃ t len cap e l c te, o.op = .makeSlice t len cap /\ o.dst = some x.d /\ o.guard = none /\ E.kd? t = some (.slice e) /\ s.ev len = .one (.val (.int .i64) l) /\ s.ev cap = .one (.val (.int .i64) c) /\ E.ti e = some te /\
  (te.ty.sz ≠ 0 /\ te.bytes ≠ 0) /\ 0 <= (l : Int) /\ (l : Int) <= c /\ (c : Int) * te.bytes <= 281474976710656 /\ x.id = s.nm (some x.d) /\ x.ob = zl9 (E.flat.contains e) te.kd te.ty (Int.toNat l)
theorem yn0 (fl : Bool) (k : Kd) (t : Ty) (n i : Nat) : (zl9 fl k t n).has i = false := by
 unfold zl9
 split <;> rfl
section
variable {ρ : Type} {P : Program} {E : Env} {Pr : Nat -> Prop} {w0 : St} {stk : List (Array Value)}
theorem ys8 {s : MS} {o : Oper} {x : Mk} (h : w33 E s o x) : x.still := by
 obtain ⟨t, len, cap, e, l, c, te, h1, h2, h3, h4, h5, h6, h7, h8, h9, h10, h11, h12, h13⟩ := h
 intro i
 rw [h13]; exact yn0 _ _ _ _ _
theorem w20 {s : MS} {o : Oper} {x : Mk} (h : w33 E s o x) {inl : Inl ρ} {all : List Oper} {K : MS -> Option ρ} : yc3 E inl all o s K = K (x.step s) := by
 have hs := ys8 h
 obtain ⟨t, len, cap, e, l, c, te, h1, h2, h3, h4, h5, h6, h7, h8, h9, h10, h11, h12, h13⟩ := h
 obtain ⟨d, id, ob⟩ := x
 simp only at h2 h12 h13
 subst h12 h13
 unfold yc3 w96
 simp only [h3, h1, h2, h4, h5, h6, h7]
 rw [if_pos h8, if_pos h9, if_pos h10, if_pos h11]
 unfold MS.mk?
 have : (zl9 (E.flat.contains e) te.kd te.ty (Int.toNat l)).has (s.nm (some d)) = false := hs _
 simp only [this, Bool.false_eq_true, if_false]
 rfl
theorem wc6 {s : MS} {o : Oper} {d : Nat} {ts : List Nat} (hm : zw4 o = some (d, ts)) {inl : Inl ρ} {all : List Oper} {K : MS -> Option ρ} {r : ρ} (h : yc3 E inl all o s K = some r) : ∃ x : Mk, x.d = d /\ w33 E s o x /\ K (x.step s) = some r := by
 unfold zw4 at hm
 split at hm
 ·rename_i t len cap d' ho hg hd
  simp only [Option.some.injEq, Prod.mk.injEq] at hm
  obtain ⟨rfl, _⟩ := hm
  have h0 := h
  unfold yc3 w96 at h
  simp only [hg, ho, hd] at h
  split at h
  ·rename_i e l c hk hl hc
   split at h
   ·rename_i te hte
    split at h
    ·rename_i h8
     split at h
     ·rename_i h9
      split at h
      ·rename_i h10
       split at h
       ·rename_i h11
        have hx : w33 E s o ⟨d', s.nm (some d'), zl9 (E.flat.contains e) te.kd te.ty (Int.toNat l)⟩ := ⟨t, len, cap, e, l, c, te, ho, hd, hg, hk, hl, hc, hte, h8, h9, h10, h11, rfl, rfl⟩
        rw [w20 hx] at h0
        exact ⟨_, rfl, hx, h0⟩
       ·cases h
      ·cases h
     ·cases h
    ·cases h
   ·cases h
  ·cases h
 ·cases hm
theorem wr0 (y : Mk) (s : MS) (t : Nat) (h : t ≠ y.d) (k : IntKind) (n : Int) : (y.step s).get t = .one (.val (.int k) n) ↔ s.get t = .one (.val (.int k) n) := by
 unfold MS.get
 rw [zi0, if_neg h]
 cases look t s.slots with
 | none => simp
 | some v =>
  simp only [Option.map_some, Option.getD_some]
  by_cases hv : v.has y.id = true
  ·rw [if_pos hv]
   constructor
   ·intro e; cases e
   ·intro e; rw [e] at hv; cases hv
  ·rw [if_neg hv]
theorem yz3 (y : Mk) (s : MS) (x : Operand) (h : ∀ t, x = .tmp t -> t ≠ y.d) (k : IntKind) (n : Int) : (y.step s).ev x = .one (.val (.int k) n) ↔ s.ev x = .one (.val (.int k) n) := by
 cases x with
 | tmp t => exact wr0 y s t (h t rfl) k n
 | _ => exact Iff.rfl
theorem wj7 (y : Mk) (s : MS) (d : Option Nat) : (y.step s).nm d = s.nm d := by
 unfold MS.nm
 rw [zh9, List.length_map]
theorem wg2 {y : Mk} {s : MS} {o : Oper} {x : Mk} {d : Nat} {ts : List Nat} (hm : zw4 o = some (d, ts)) (hy : y.d ∉ ts) : w33 E (y.step s) o x ↔ w33 E s o x := by
 have hts : ∀ t len cap, o.op = .makeSlice t len cap -> (∀ u, len = .tmp u -> u ≠ y.d) /\ ∀ u, cap = .tmp u -> u ≠ y.d := by
  intro t len cap ho
  unfold zw4 at hm
  rw [ho] at hm
  split at hm
  ·rename_i t' len' cap' d' ho' _ _
   cases ho'
   simp only [Option.some.injEq, Prod.mk.injEq] at hm
   obtain ⟨_, rfl⟩ := hm
   constructor
   ·rintro u rfl rfl
    exact hy (by simp)
   ·rintro u rfl rfl
    apply hy
    cases len <;> simp
  ·cases hm
 unfold w33
 constructor
 ·rintro ⟨t, len, cap, e, l, c, te, h1, h2, h3, h4, h5, h6, h7⟩
  obtain ⟨g1, g2⟩ := hts t len cap h1
  rw [wj7] at h7
  exact ⟨t, len, cap, e, l, c, te, h1, h2, h3, h4, (yz3 y s len g1 _ _).1 h5, (yz3 y s cap g2 _ _).1 h6, h7⟩
 ·rintro ⟨t, len, cap, e, l, c, te, h1, h2, h3, h4, h5, h6, h7⟩
  obtain ⟨g1, g2⟩ := hts t len cap h1
  rw [<- wj7 y s] at h7
  exact ⟨t, len, cap, e, l, c, te, h1, h2, h3, h4, (yz3 y s len g1 _ _).2 h5, (yz3 y s cap g2 _ _).2 h6, h7⟩
theorem y8y {o : Oper} {x : Mk} {d : Nat} {ts : List Nat} (hm : zw4 o = some (d, ts)) : ∀ (l : List Mk) (s : MS), (∀ y, y ∈ l -> y.d ∉ ts) -> (w33 E (steps l s) o x ↔ w33 E s o x)
 | [], _, _ => Iff.rfl
 | y :: l, s, h => (y8y hm l (y.step s) fun z hz => h z (List.mem_cons_of_mem _ hz)).trans (wg2 hm (h y (List.mem_cons_self ..)))
theorem w8n {s s' : MS} {o : Oper} {x : Mk} (ha : Alike s s') (h : w33 E s o x) : w33 E s' o x := by
 obtain ⟨t, len, cap, e, l, c, te, h1, h2, h3, h4, h5, h6, h7, h8, h9, h10, h11, h12, h13⟩ := h
 have hev : ∀ x, s.ev x = s'.ev x := fun x => by
  cases x with
  | tmp t => exact ha.get t
  | _ => rfl
 exact ⟨t, len, cap, e, l, c, te, h1, h2, h3, h4, hev len ▸ h5, hev cap ▸ h6, h7, h8, h9, h10, h11, by rw [<- ha.nm]; exact h12, h13⟩
theorem w26 {ops : Array Oper} {bf : List (List Nat)} : ∀ (p : List Nat) (n : Nat) (listed : Array Bool) (order : List Nat), w6w E ops bf n listed p = some order ->
  ∃ m order', n = p.length + m /\ order = p ++ order' /\ w6w E ops bf m (z2r p listed) [] = some order'
 | [], n, listed, order, h => ⟨n, order, by simp, rfl, h⟩
 | i :: p, 0, listed, order, h => by simp [w6w] at h
 | i :: p, n + 1, listed, order, h => by
  simp only [w6w, Option.map_eq_some_iff] at h
  obtain ⟨o1, h1, rfl⟩ := h
  obtain ⟨m, o2, g1, rfl, g3⟩ := w26 p n _ o1 h1
  exact ⟨m, o2, by simp [g1]; omega, rfl, g3⟩
theorem wi7 {ops : Array Oper} {inl : Inl ρ} {K : MS -> Option ρ} {r : ρ} : ∀ (L : List Nat) (rest : List Oper) (s : MS), (∀ i, i ∈ L -> ∃ o d ts, ops[i]? = some o /\ zw4 o = some (d, ts)) ->
  yo6 E inl ops.toList (L.filterMap (fun i => ops[i]?) ++ rest) s K = some r -> ∃ fx : List Mk, fx.length = L.length /\ yo6 E inl ops.toList rest (steps fx s) K = some r /\
   ∀ (j : Nat) (i : Nat) (x : Mk), L[j]? = some i -> fx[j]? = some x -> ∃ o d ts, ops[i]? = some o /\ zw4 o = some (d, ts) /\ x.d = d /\ w33 E (steps (fx.take j) s) o x
 | [], rest, s, _, h => ⟨[], rfl, h, fun j i x h => by simp at h⟩
 | i :: L, rest, s, hL, h => by
  obtain ⟨o, d, ts, ho, hm⟩ := hL i (List.mem_cons_self ..)
  rw [List.filterMap_cons, ho, List.cons_append] at h
  simp only [yo6] at h
  obtain ⟨x, hd, hx, h⟩ := wc6 hm h
  obtain ⟨fx, h1, h2, h3⟩ := wi7 L rest (x.step s) (fun k hk => hL k (List.mem_cons_of_mem _ hk)) h
  refine ⟨x :: fx, by simp [h1], h2, fun j k y hj hy => ?_⟩
  cases j with
  | zero =>
   simp only [List.getElem?_cons_zero, Option.some.injEq] at hj hy
   subst hj hy
   exact ⟨o, d, ts, ho, hm, hd, hx⟩
  | succ j =>
   simp only [List.getElem?_cons_succ] at hj hy
   exact h3 j k y hj hy
end
section
variable {P : Program} {E : Env} {Pr : Nat -> Prop} {w0 : St} {stk : List (Array Value)}
theorem w4j : y0p P Pr w0 (fun _ _ _ _ => none : Inl MS) := by
 intro f avs s K r stk tm w G vs h
 cases h
theorem wh3 (hE : EOk P E) (hS : z6j P E) (hP : ∀ b, Pr b -> b < w0.heap.size) {ops : Array Oper} {n : Nat} (hd : y4p n ops.toList = true) {D : Nat -> Prop} (hDs : ∀ o, o ∈ ops.toList -> ∀ t, o.dst = some t -> D t)
  {Q : Exit -> Act -> World -> Prop} {L : List Nat} {F : Nat -> Mk} {s0 : MS} {a0 : Act}
  (hF : ∀ i, i ∈ L -> ∃ o d ts, ops[i]? = some o /\ zw4 o = some (d, ts) /\ w33 E s0 o (F i) /\ ∀ j, j ∈ L -> (F j).d ∉ ts) (hap : Apart (L.map F)) {listed0 : Array Bool} {fuelR : Nat}
  (hrest : ∀ a w G, Rel Pr w0 stk (steps (L.map F) s0) a.tmps w G -> Same D a0 a -> a.defers = a0.defers -> a.tmps.size = n -> y3l P E ops Q fuelR (z2r L listed0) a w) :
  ∀ (m : Nat) (rem done : List Nat) (listed : Array Bool) (s : MS) (a : Act) (w : World) (G : Gh), rem.length = m -> (done ++ rem).Perm L -> rem.Nodup -> listed = z2r done listed0 -> Down ops listed -> (∀ i, i ∈ rem -> i ∈ Region.ready .any ops listed) ->
   (∀ k o, ops[k]? = some o -> listed.getD k true = false -> k ∉ L -> ∀ i, i ∈ L -> Bef ops k i) -> (∀ i, i ∈ done -> listed.getD i true = true) ->
   Alike s (steps (done.map F) s0) -> Rel Pr w0 stk s a.tmps w G -> Same D a0 a -> a.defers = a0.defers -> a.tmps.size = n -> y3l P E ops Q (m + fuelR) listed a w
 | 0, rem, done, listed, s, a, w, G, hm, hperm, _, hl, _, _, _, _, hal, hr, hsame, hdef, hn => by
  obtain rfl := List.length_eq_zero_iff.1 hm
  rw [List.append_nil] at hperm
  have hst : ∀ x, x ∈ done.map F -> x.still := fun x hx => by
   obtain ⟨i, hi, rfl⟩ := List.mem_map.1 hx
   obtain ⟨o, d, ts, _, _, h, _⟩ := hF i (hperm.mem_iff.1 hi)
   exact ys8 h
  have hap' : Apart (done.map F) := (List.Perm.pairwise_iff (R := fun x y : Mk => x.d ≠ y.d /\ x.id ≠ y.id) (fun {a b} h => ⟨fun e => h.1 e.symm, fun e => h.2 e.symm⟩) (hperm.map F)).2 hap
  have := hrest a w G (hr.alike (hal.trans (w92 (hperm.map F) s0 hap' hst))) hsame hdef hn
  rw [Nat.zero_add, hl, w5a fun k => hperm.mem_iff]
  exact this
 | m + 1, rem, done, listed, s, a, w, G, hm, hperm, hnd, hl, hdn, hrd, hbar, hdone, hal, hr, hsame, hdef, hn => by
  have hmem : ∀ i, i ∈ rem -> i ∈ L := fun i hi => hperm.mem_iff.1 (List.mem_append_right _ hi)
  obtain ⟨i0, rem0, hrem⟩ : ∃ i0 rem0, rem = i0 :: rem0 := by
   cases rem with
   | nil => simp at hm
   | cons i0 rem0 => exact ⟨i0, rem0, rfl⟩
  have h0 : i0 ∈ rem := by rw [hrem]; exact List.mem_cons_self ..
  rw [show m + 1 + fuelR = (m + fuelR) + 1 by omega]
  refine ⟨fun e => (by have := hrd i0 h0; rw [e] at this; cases this), fun i hi => ?_⟩
  have hun := (mem_ready.1 hi).1
  have hiL : i ∈ L := by
   apply Decidable.of_not_not
   intro hno
   obtain ⟨_, oi, hoi, _⟩ := mem_ready.1 hi
   have hb := y7x hdn hi (hbar i oi hoi hun hno i0 (hmem i0 h0))
   have hu0 := (mem_ready.1 (hrd i0 h0)).1
   rcases Nat.lt_or_ge i0 listed.size with h' | h'
   ·simp [h'] at hb hu0; rw [hu0] at hb; cases hb
   ·simp [Array.getElem?_eq_none h'] at hu0
  have hir : i ∈ rem := by
   rcases List.mem_append.1 (hperm.mem_iff.2 hiL) with h | h
   ·rw [hdone i h] at hun; cases hun
   ·exact h
  obtain ⟨o, d, ts, ho, hmk, hof, hts⟩ := hF i hiL
  have hof' : w33 E s o (F i) := w8n hal.symm ((y8y hmk (done.map F) s0 fun y hy => by
    obtain ⟨j, hj, rfl⟩ := List.mem_map.1 hy
    exact hts j (hperm.mem_iff.1 (List.mem_append_left _ hj))).2 hof)
  have hex : yc3 E (fun _ _ _ _ => none : Inl MS) ops.toList o s some = some ((F i).step s) := w20 hof'
  have hol : o ∈ ops.toList := List.mem_of_getElem? (by rw [Array.getElem?_toList]; exact ho)
  have hdo : ∀ t, o.dst = some t -> t < a.tmps.size := by
   intro t ht
   unfold y4p at hd
   rw [List.all_eq_true] at hd
   have := hd o hol
   rw [ht] at this
   rw [hn]; simpa using this
  refine wpOp_mono (fun a' w' ⟨h1, h2⟩ => ⟨fun o' ho' hc => ?_, ?_⟩) (zi2 (Q := Q) hE hS hP w4j hr ho hdo (hDs o hol) hex).1
  ·rw [ho] at ho'; cases ho'
   exact h2 hc
  ·obtain ⟨s', G', hr', hs', hdf', hK⟩ := h1
   cases hK
   have hpe : (done ++ [i] ++ rem.erase i).Perm L := by
    rw [List.append_assoc]
    refine List.Perm.trans (List.Perm.append_left done ?_) hperm
    exact (List.perm_cons_erase hir).symm
   refine wh3 hE hS hP hd hDs hF hap hrest m (rem.erase i) (done ++ [i]) (listed.setIfInBounds i true) ((F i).step s) a' w' G' (by rw [List.length_erase_of_mem hir, hm]; rfl) hpe (hnd.erase i) ?_ (zi4 hdn hi) ?_ ?_ ?_ ?_ hr' (hsame.trans hs') (hdf'.trans hdef) (hs'.1.trans hn)
   ·rw [hl]
    unfold z2r
    rw [List.foldl_append]
    rfl
   ·intro j hj
    have hji : j ≠ i := fun e => by subst e; exact (List.Nodup.not_mem_erase hnd) hj
    exact ready_mono (hrd j (List.mem_of_mem_erase hj)) hji
   ·intro k ok hok hk hkL j hj
    refine hbar k ok hok ?_ hkL j hj
    by_cases hki : i = k
    ·subst hki; exact absurd hiL hkL
    ·rw [Go.getD_set_ne true hki] at hk; exact hk
   ·intro j hj
    rcases List.mem_append.1 hj with hj | hj
    ·by_cases hji : i = j
     ·subst hji; rw [hdone i hj] at hun; cases hun
     ·rw [Go.getD_set_ne true hji]; exact hdone j hj
    ·rw [List.mem_singleton] at hj
     subst hj
     rcases Nat.lt_or_ge j listed.size with h' | h'
     ·simp [h']
     ·simp [h']
   ·rw [List.map_append]
    unfold steps
    rw [List.foldl_append]
    exact yu0 _ hal
end
section
variable {ρ : Type} {P : Program} {E : Env} {Pr : Nat -> Prop} {w0 : St} {stk : List (Array Value)}
theorem y92 (hE : EOk P E) (hS : z6j P E) (hP : ∀ b, Pr b -> b < w0.heap.size) {inl : Inl ρ} (hI : y0p P Pr w0 inl) {ops : Array Oper} {n : Nat} (hd : y4p n ops.toList = true) {D : Nat -> Prop} (hDs : ∀ o, o ∈ ops.toList -> ∀ t, o.dst = some t -> D t) (hs : Region.noSelect ops = true)
  {bf : List (List Nat)} (hb : ∀ j i, i ∈ bf.getD j [] -> Bef ops j i) {Q : Exit -> Act -> World -> Prop} (hQ : ∀ c a w, ¬ Q (.panic c) a w) {r : ρ} :
  ∀ (fuel : Nat) (listed : Array Bool) (order : List Nat) {s : MS} {a : Act} {w : World} {G : Gh} {K : MS -> Option ρ}, w6w E ops bf fuel listed [] = some order -> Down ops listed -> Rel Pr w0 stk s a.tmps w G -> a.tmps.size = n ->
   yo6 E inl ops.toList (order.filterMap fun i => ops[i]?) s K = some r -> (∀ a' w', Then Pr w0 stk D a K r a' w' -> Q .normal a' w') -> y3l P E ops Q fuel listed a w
 | 0, listed, order, s, a, w, G, K, hpl, hdn, k, hn, h, hfin => by
  unfold w6w at hpl
  split at hpl
  ·rename_i hr
   cases hpl
   exact ⟨List.isEmpty_iff.1 (by simpa using hr), hfin a w ⟨s, G, k, Same.refl _ _, rfl, h⟩⟩
  ·cases hpl
 | fuel + 1, listed, order, s, a, w, G, K, hpl, hdn, k, hn, h, hfin => by
  have hdo : ∀ (i : Nat) (o : Oper), ops[i]? = some o -> ∀ t, o.dst = some t -> t < a.tmps.size := by
   intro i o ho t ht
   unfold y4p at hd
   rw [List.all_eq_true] at hd
   have := hd o (List.mem_of_getElem? (by rw [Array.getElem?_toList]; exact ho))
   rw [ht] at this
   rw [hn]; simpa using this
  have next : ∀ {i : Nat} {o : Oper} {order : List Nat} {a' : Act} {w' : World}, i ∈ Region.ready .any ops listed -> w6w E ops bf fuel (listed.setIfInBounds i true) [] = some order ->
    Then Pr w0 stk D a (fun s => yo6 E inl ops.toList (order.filterMap fun i => ops[i]?) s K) r a' w' -> y3l P E ops Q fuel (listed.setIfInBounds i true) a' w' := by
   rintro i o order a' w' hi hpl ⟨s', G', k', hs1, hdf, hK⟩
   exact y92 hE hS hP hI hd hDs hs hb hQ fuel _ order hpl (zi4 hdn hi) k' (hs1.1.trans hn) hK fun a'' w'' ⟨s2, G2, k2, hs2, hd2, hK2⟩ => hfin a'' w'' ⟨s2, G2, k2, hs1.trans hs2, hd2.trans hdf, hK2⟩
  unfold w6w at hpl
  split at hpl
  ·rename_i hr
   cases hpl
   exact w5k hr (hfin a w ⟨s, G, k, Same.refl _ _, rfl, h⟩) _
  ·rename_i i hr
   simp only [Option.map_eq_some_iff] at hpl
   obtain ⟨order', hpl, rfl⟩ := hpl
   have hi : i ∈ Region.ready .any ops listed := by rw [hr]; simp
   obtain ⟨_, o, ho, _⟩ := mem_ready.1 hi
   rw [List.filterMap_cons, ho] at h
   refine w95 hr (wpOp_mono (fun a' w' ⟨h1, h2⟩ => ⟨fun o' ho' hc => ?_, next (o := o) hi hpl h1⟩) (zi2 (Q := Q) hE hS hP hI k ho (hdo i o ho) (hDs o (List.mem_of_getElem? (by rw [Array.getElem?_toList]; exact ho))) h).1)
   rw [ho] at ho'; cases ho'
   exact h2 hc
  ·rename_i i0 p hr1 hr2
   split at hpl
   ·rename_i i hf
    simp only [Option.map_eq_some_iff] at hpl
    obtain ⟨order', hpl, rfl⟩ := hpl
    have hi : i ∈ Region.ready .any ops listed := by rw [hr2]; exact List.mem_of_find?_eq_some hf
    obtain ⟨oi, any, ho, hy, hfree⟩ := y6z hb (List.find?_some hf)
    rw [List.filterMap_cons, ho] at h
    obtain ⟨v, hyv, ht⟩ := (zi2 (Q := Q) hE hS hP hI k ho (hdo i oi ho) (hDs oi (List.mem_of_getElem? (by rw [Array.getElem?_toList]; exact ho))) h).2 any hy
    exact w2z ho (Region.noSelect_spec hs) hQ (by unfold w31; rw [hy]; rfl) fuel listed a w hdn hfree hi hyv (next (o := oi) hi hpl ht)
   ·split at hpl
    ·rename_i hok
     simp only [Option.map_eq_some_iff] at hpl
     obtain ⟨order', hpl, rfl⟩ := hpl
     obtain ⟨m, order'', hfuel, rfl, hpl'⟩ := w26 p fuel _ order' hpl
     have hpl' : w6w E ops bf m (z2r (i0 :: p) listed) [] = some order'' := hpl'
     have hLr : ∀ i, i ∈ i0 :: p ↔ i ∈ Region.ready .any ops listed := fun i => by rw [hr2]
     have hLn : (i0 :: p).Nodup := by
      rw [<- hr2]
      unfold Region.ready
      exact List.Pairwise.filter _ List.nodup_range
     unfold v1t at hok
     rw [Bool.and_eq_true, List.all_eq_true, List.all_eq_true] at hok
     obtain ⟨hok1, hok2⟩ := hok
     have hpart : ∀ i, i ∈ i0 :: p -> ∃ o d ts, ops[i]? = some o /\ zw4 o = some (d, ts) /\ ∀ j, j ∈ i0 :: p -> ∃ o' d' ts', ops[j]? = some o' /\ zw4 o' = some (d', ts') /\ (i = j \/ d ≠ d') /\ d' ∉ ts := by
      intro i hi
      have h1 := hok1 i hi
      split at h1
      ·cases h1
      ·rename_i d ts hmk
       obtain ⟨o, ho, hmk⟩ := Option.bind_eq_some_iff.1 hmk
       refine ⟨o, d, ts, ho, hmk, fun j hj => ?_⟩
       rw [List.all_eq_true] at h1
       have h2 := h1 j hj
       split at h2
       ·cases h2
       ·rename_i d' ts' hmk'
        obtain ⟨o', ho', hmk'⟩ := Option.bind_eq_some_iff.1 hmk'
        simp only [Bool.and_eq_true, Bool.or_eq_true, beq_iff_eq, bne_iff_ne, Bool.not_eq_true'] at h2
        exact ⟨o', d', ts', ho', hmk', h2.1, by simpa using h2.2⟩
     have hbar : ∀ k o, ops[k]? = some o -> listed.getD k true = false -> k ∉ i0 :: p -> ∀ i, i ∈ i0 :: p -> Bef ops k i := by
      intro k o hko hk hkL i hi
      have hks : k < ops.size := (Array.getElem?_eq_some_iff.1 hko).1
      have h1 := hok2 k (List.mem_range.2 hks)
      have hc : (i0 :: p).contains k = false := by
       cases hc : (i0 :: p).contains k with
       | false => rfl
       | true => exact absurd (List.contains_iff_mem.1 hc) hkL
      rw [hk, hc, Bool.false_or, Bool.false_or, List.all_eq_true] at h1
      exact hb k i (List.contains_iff_mem.1 (h1 i hi))
     rw [show i0 :: (p ++ order'') = (i0 :: p) ++ order'' from rfl, List.filterMap_append] at h
     obtain ⟨fx, hlen, hrun, hfx⟩ := wi7 (i0 :: p) _ s (fun i hi => let ⟨o, d, ts, h1, h2, _⟩ := hpart i hi; ⟨o, d, ts, h1, h2⟩) h
     -- what each one makes, ahead of all
     have hat : ∀ (j i : Nat) (x : Mk), (i0 :: p)[j]? = some i -> fx[j]? = some x -> ∃ o d ts, ops[i]? = some o /\ zw4 o = some (d, ts) /\ x.d = d /\ w33 E s o x := by
      intro j i x hj hx
      obtain ⟨o, d, ts, h1, h2, h3, h4⟩ := hfx j i x hj hx
      refine ⟨o, d, ts, h1, h2, h3, (y8y h2 (fx.take j) s fun y hy => ?_).1 h4⟩
      obtain ⟨j', hj', hy'⟩ := List.getElem_of_mem (List.mem_of_mem_take hy)
      have hj2 : j' < (i0 :: p).length := by rw [<- hlen]; exact hj'
      obtain ⟨o2, d2, ts2, g1, g2, g3, _⟩ := hfx j' _ y (List.getElem?_eq_getElem hj2) (by rw [List.getElem?_eq_getElem hj', hy'])
      obtain ⟨o3, d3, ts3, e1, e2, e3⟩ := hpart i (List.mem_of_getElem? hj)
      rw [h1] at e1; cases e1
      rw [h2] at e2; cases e2
      obtain ⟨o4, d4, ts4, f1, f2, _, f4⟩ := e3 _ (List.getElem_mem hj2)
      rw [g1] at f1; cases f1
      rw [g2] at f2; cases f2
      rw [g3]; exact f4
     let F : Nat -> Mk := fun i => fx.getD ((i0 :: p).idxOf i) ⟨0, 0, .box []⟩
     have hFx : (i0 :: p).map F = fx := by
      apply List.ext_getElem
      ·rw [List.length_map, hlen]
      ·intro j h1 h2
       rw [List.length_map] at h1
       rw [List.getElem_map]
       show fx.getD ((i0 :: p).idxOf (i0 :: p)[j]) _ = _
       rw [List.Nodup.idxOf_getElem hLn, List.getD_eq_getElem?_getD, List.getElem?_eq_getElem h2]
       rfl
     have hFi : ∀ i, i ∈ i0 :: p -> ∃ o d ts, ops[i]? = some o /\ zw4 o = some (d, ts) /\ (F i).d = d /\ w33 E s o (F i) := by
      intro i hi
      obtain ⟨j, hj, rfl⟩ := List.getElem_of_mem hi
      have hj' : j < fx.length := by rw [hlen]; exact hj
      have : F (i0 :: p)[j] = fx[j] := by
       show fx.getD ((i0 :: p).idxOf (i0 :: p)[j]) _ = _
       rw [List.Nodup.idxOf_getElem hLn, List.getD_eq_getElem?_getD, List.getElem?_eq_getElem hj']
       rfl
      rw [this]
      exact hat j _ _ (List.getElem?_eq_getElem hj) (List.getElem?_eq_getElem hj')
     have hnmd : ∀ i, i ∈ i0 :: p -> (F i).id = s.nm (some (F i).d) := by
      intro i hi
      obtain ⟨o, d, ts, _, _, _, t, len, cap, e, l, c, te, q1, q2, q3, q4, q5, q6, q7, q8, q9, q10, q11, q12, q13⟩ := hFi i hi
      exact q12
     have hdd : ∀ i, i ∈ i0 :: p -> ∀ j, j ∈ i0 :: p -> i ≠ j -> (F i).d ≠ (F j).d := by
      intro i hi j hj hij
      obtain ⟨o, d, ts, h1, h2, h3, _⟩ := hFi i hi
      obtain ⟨o', d', ts', h1', h2', h3', _⟩ := hFi j hj
      obtain ⟨o3, d3, ts3, e1, e2, e3⟩ := hpart i hi
      rw [h1] at e1; cases e1
      rw [h2] at e2; cases e2
      obtain ⟨o4, d4, ts4, f1, f2, f3, _⟩ := e3 j hj
      rw [h1'] at f1; cases f1
      rw [h2'] at f2; cases f2
      rw [h3, h3']
      exact f3.resolve_left hij
     have hap : Apart ((i0 :: p).map F) := by
      unfold Apart
      rw [List.pairwise_map]
      refine List.Pairwise.imp_of_mem (fun {a b} ha hb' hne => ?_) (List.nodup_iff_pairwise_ne.1 hLn)
      have hdne := hdd a ha b hb' hne
      refine ⟨hdne, ?_⟩
      rw [hnmd a ha, hnmd b hb']
      unfold MS.nm
      simp only [Option.getD_some]
      omega
     have := wh3 (n := n) (Q := Q) (a0 := a) (listed0 := listed) (fuelR := m) hE hS hP hd hDs (L := i0 :: p) (F := F) (s0 := s)
      (fun i hi => by
        obtain ⟨o, d, ts, h1, h2, _, h4⟩ := hFi i hi
        refine ⟨o, d, ts, h1, h2, h4, fun j hj => ?_⟩
        obtain ⟨o3, d3, ts3, e1, e2, e3⟩ := hpart i hi
        rw [h1] at e1; cases e1
        rw [h2] at e2; cases e2
        obtain ⟨o4, d4, ts4, f1, f2, _, f4⟩ := e3 j hj
        obtain ⟨o', d', ts', h1', h2', h3', _⟩ := hFi j hj
        rw [h1'] at f1; cases f1
        rw [h2'] at f2; cases f2
        rw [h3']; exact f4) hap
      (fun a' w' G' hr' hs' hdf' hn' => by
        rw [hFx] at hr'
        exact y92 hE hS hP hI hd hDs hs hb hQ m _ order'' hpl' (by
          have : ∀ (l : List Nat) (listed : Array Bool), Down ops listed -> (∀ i, i ∈ l -> i ∈ Region.ready .any ops listed) -> l.Nodup -> Down ops (z2r l listed) := by
            intro l
            induction l with
            | nil => intro listed h _ _; exact h
            | cons i l ih =>
              intro listed hd' hr'' hnd
              have hnd := List.nodup_cons.1 hnd
              exact ih (listed.setIfInBounds i true) (zi4 hd' (hr'' i (List.mem_cons_self ..))) (fun j hj => ready_mono (hr'' j (List.mem_cons_of_mem _ hj)) fun e => hnd.1 (e ▸ hj)) hnd.2
          exact this _ _ hdn (fun i hi => (hLr i).1 hi) hLn) hr' hn' hrun fun a'' w'' ⟨s2, G2, k2, hs2, hd2, hK2⟩ => hfin a'' w'' ⟨s2, G2, k2, hs'.trans hs2, hd2.trans hdf', hK2⟩)
      (i0 :: p).length (i0 :: p) [] listed s a w G rfl (List.Perm.refl _) hLn rfl hdn (fun i hi => (hLr i).1 hi) hbar (fun i hi => by cases hi) (Alike.refl s) k (Same.refl _ _) rfl hn
     rw [show fuel + 1 = (i0 :: p).length + m by rw [List.length_cons, hfuel]; omega]
     exact this
    ·cases hpl
termination_by fuel => fuel
decreasing_by all_goals omega
end
end Vm
/- What stood in some slots before they were written. -/
namespace Vm
open Go
def back (φ : List (Nat × Value)) (a : Act) : Act := { a with tmps := a.tmps.mapIdx fun t v => (look t φ).getD v }
section
variable {P : Program} {ops : Array Oper} {Q : Exit -> Act -> World -> Prop}
theorem y0x (a : Act) : back [] a = a := by
 unfold back
 have : (a.tmps.mapIdx fun t v => (look t ([] : List (Nat × Value))).getD v) = a.tmps := by
  apply Array.ext
  ·simp
  ·intro i h1 h2; simp [look]
 rw [this]
theorem yg5 (φ : List (Nat × Value)) (a : Act) : (back φ a).tmps.size = a.tmps.size := by simp [back]
theorem ww0 (φ : List (Nat × Value)) (a : Act) (d : List Deferred) : back φ { a with defers := d } = { back φ a with defers := d } := rfl
theorem v0w (φ : List (Nat × Value)) (a : Act) {t : Nat} (h : look t φ = none) (x : Value) : (back φ a).tmps.getD t x = a.tmps.getD t x := by
 simp only [back, Array.getD_eq_getD_getElem?, Array.getElem?_mapIdx, h, Option.getD_none]
 cases a.tmps[t]? <;> rfl
theorem y3q (φ : List (Nat × Value)) (a : Act) {x : Option Nat} (v : Value) (h : ∀ d, x = some d -> look d φ = none) : back φ (a.put x v) = (back φ a).put x v := by
 cases x with
 | none => rfl
 | some d =>
  have hd := h d rfl
  have : ((a.tmps.setIfInBounds d v).mapIdx fun t v => (look t φ).getD v) = (a.tmps.mapIdx fun t v => (look t φ).getD v).setIfInBounds d v := by
   apply Array.ext_getElem?
   intro i
   by_cases e : d = i
   ·subst e
    simp only [Array.getElem?_mapIdx, Array.getElem?_setIfInBounds_self, Array.size_mapIdx, hd]
    split <;> rfl
   ·simp only [Array.getElem?_mapIdx, Array.getElem?_setIfInBounds_ne e]
  simp only [back, Act.put, this]
theorem w9q (φ : List (Nat × Value)) (a : Act) {d : Nat} (v : Value) (h : look d φ = none) : back ((d, a.tmps.getD d undef) :: φ) (a.put (some d) v) = back φ a := by
 have : ((a.tmps.setIfInBounds d v).mapIdx fun t v => (look t ((d, a.tmps.getD d undef) :: φ)).getD v) = a.tmps.mapIdx fun t v => (look t φ).getD v := by
  apply Array.ext_getElem?
  intro i
  by_cases e : d = i
  ·subst e
   simp only [Array.getElem?_mapIdx, Array.getElem?_setIfInBounds_self, look, if_true, h, Option.getD_some, Option.getD_none]
   split
   ·rename_i hi; simp [hi]
   ·rename_i hi; simp [Array.getElem?_eq_none (Nat.not_lt.1 hi)]
  ·have e' : ¬ i = d := fun h => e h.symm
   simp only [Array.getElem?_mapIdx, Array.getElem?_setIfInBounds_ne e, look, e', if_false]
 simp only [back, Act.put, this]
theorem w9r (φ φ' : List (Nat × Value)) (a : Act) {d : Nat} (h1 : look d φ' = none) (h2 : ∀ t, t ≠ d -> look t φ' = look t φ) : back φ' a = (back φ a).put (some d) (a.tmps.getD d undef) := by
 have : (a.tmps.mapIdx fun t v => (look t φ').getD v) = (a.tmps.mapIdx fun t v => (look t φ).getD v).setIfInBounds d (a.tmps.getD d undef) := by
  apply Array.ext_getElem?
  intro i
  by_cases e : d = i
  ·subst e
   simp only [Array.getElem?_mapIdx, Array.getElem?_setIfInBounds_self, Array.size_mapIdx, h1, Option.getD_none]
   split
   ·rename_i hi; simp [hi]
   ·rename_i hi; simp [Array.getElem?_eq_none (Nat.not_lt.1 hi)]
  ·have e' : i ≠ d := fun h => e h.symm
   simp only [Array.getElem?_mapIdx, Array.getElem?_setIfInBounds_ne e, h2 i e']
 simp only [back, Act.put, this]
theorem w9s (φ : List (Nat × Value)) (a : Act) {x : Operand} (h : ∀ t, x = .tmp t -> look t φ = none) : (back φ a).eval x = a.eval x := by
 cases x with
 | tmp t =>
  have := h t rfl
  simp [Act.eval, back, Array.getElem?_mapIdx, this]
 | _ => rfl
theorem y10 (o : Oper) (hs : ∀ cs b, o.op ≠ .select cs b) (φ : List (Nat × Value)) (a : Act) (h : ∀ t, t ∈ o.looksAt ops -> look t φ = none) : execOp (back φ a).eval o = execOp a.eval o :=
 execOp_congr o hs fun x hx => w9s φ a fun t e => h t (by
   subst e
   exact List.mem_append_left _ (List.mem_filterMap.2 ⟨.tmp t, by simpa using hx, rfl⟩))
theorem w5j (o : Oper) (φ : List (Nat × Value)) (a : Act) (h : ∀ t, t ∈ o.looksAt ops -> look t φ = none) :
  Region.wanted o (yielded ops (back φ a).tmps) = Region.wanted o (yielded ops a.tmps) := by
 unfold Region.wanted
 cases hg : o.guard with
 | none => rfl
 | some gw =>
  obtain ⟨g, want⟩ := gw
  have hy : yielded ops (back φ a).tmps g = yielded ops a.tmps g := by
   unfold yielded
   cases ht : (ops[g]?).bind (·.dst) with
   | none => rfl
   | some t =>
    have := h t (by simp [Oper.looksAt, hg, ht])
    simp [back, Array.getElem?_mapIdx, this]
  simp only [hy]
theorem wk9 {j : Nat} {oj : Oper} (hj : ops[j]? = some oj) (hsj : ∀ cs b, oj.op ≠ .select cs b) (hQ : ∀ c a w, ¬ Q (.panic c) a w) {φ : List (Nat × Value)} (hl : ∀ t, t ∈ oj.looksAt ops -> look t φ = none)
  (hd : ∀ d, oj.dst = some d -> look d φ = none) {Inv : Act -> Prop} (hI : ∀ a v, Inv a -> Inv (a.put oj.dst v)) (hD : ∀ (a : Act) d, Inv a -> Inv { a with defers := d }) {K : Act -> World -> Prop} {a : Act} {w : World}
  (hi : Inv a) (h : wpOp P ops Q j K (back φ a) w) : wpOp P ops Q j (fun a' w' => Inv a' /\ K (back φ a') w') a w := by
 unfold wpOp at *
 simp only [hj] at *
 rw [w5j oj φ a hl] at h
 split
 ·rename_i hw
  simp only [hw, if_true] at h
  rcases h with h | ⟨hasks, hlets⟩
  case inr => exact .inr ⟨by unfold Oper.asks at *; rw [y10 oj hsj φ a hl] at hasks; exact hasks, hlets⟩
  refine .inl ?_
  unfold Oper.wp at *
  rw [y10 oj hsj φ a hl] at h
  generalize (execOp a.eval oj).run P w = r at *
  cases r with
  | ok n w' =>
   cases n <;> simp only [Oper.upon] at h ⊢
   case value u => exact ⟨hI a u hi, by rw [y3q φ a u hd]; exact h⟩
   case skip => exact ⟨hI a _ hi, by rw [y3q φ a undef hd]; exact h⟩
   case defer d => exact ⟨hI _ _ (hD a _ hi), by rw [y3q φ _ undef hd]; exact h⟩
   case enter f args =>
    refine Calls.mono h fun e w'' he => ?_
    cases e with
    | returned u => exact ⟨hI a u hi, by rw [y3q φ a u hd]; exact he⟩
    | panicked c => exact absurd he (hQ _ _ _)
    | outgrown => exact he
   case row row args => exact Rows.mono h fun v w'' he => ⟨hI a v hi, by rw [y3q φ a v hd]; exact he⟩
  | halt x w' =>
   cases x <;> simp only [Oper.upon] at h ⊢
   case panic v => exact absurd h (hQ _ _ _)
 ·rename_i hw
  simp only [hw] at h
  exact ⟨hI a _ hi, by rw [y3q φ a undef hd]; exact h⟩
end
end Vm
