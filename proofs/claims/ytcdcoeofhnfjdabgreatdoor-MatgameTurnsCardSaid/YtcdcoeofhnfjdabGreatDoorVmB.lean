/- A small machine over the model, and that its runs tell what the model does: part 2. -/
import Derived.Test.YtcdcoeofhnfjdabGreatDoorVmA
import Derived.Laws.BytesString
import Derived.Laws.Append
import Derived.Lib.AppendZerosOnto
import Derived.Lib.ConvBytes
/- Composite values: how their cells are filled. -/
namespace Vm
open Go
section
variable {ρ : Type} {P : Program} {E : Env} {Pr : Nat -> Prop} {w0 : St} {w : World} {stk : List (Array Value)} {s : MS} {a : Act} {G : Gh} {o : Oper} {Q : Exit -> Act -> World -> Prop} {K : AV -> MS -> Option ρ} {r : ρ} {tm : Array Value}
def lay (cells : Array Value) (off : Nat) (v : Value) : Array Value := v.cells.zipIdx.foldl (fun cs (c, j) => cs.setIfInBounds (off + j) c) cells
theorem we8 (cells : Array Value) (off : Nat) (v : Value) (j : Nat) : (lay cells off v)[j]? = if off <= j /\ j < off + v.cells.size /\ j < cells.size then v.cells[j - off]? else cells[j]? := by
 unfold lay
 rw [<- Array.foldl_toList, Array.toList_zipIdx]
 have := yi8 off v.cells.toList 0 cells j
 simp only [Nat.add_zero, Array.length_toList, Array.getElem?_toList] at this
 exact this
theorem lay_size (cells : Array Value) (off : Nat) (v : Value) : (lay cells off v).size = cells.size := by
 unfold lay
 rw [<- Array.foldl_toList]
 generalize v.cells.zipIdx.toList = l
 induction l generalizing cells with
 | nil => rfl
 | cons p l ih => simp only [List.foldl_cons]; rw [ih]; simp
theorem wn9 {cs ds : Array Value} {lo n : Nat} (_ : cs.size = ds.size) (h : ∀ j, lo <= j -> j < lo + n -> cs[j]? = ds[j]?) : (cs.toList.drop lo).take n = (ds.toList.drop lo).take n := by
 apply List.ext_getElem?
 intro j
 simp only [List.getElem?_take, List.getElem?_drop, Array.getElem?_toList]
 split
 ·exact h _ (by omega) (by omega)
 ·rfl
theorem wc9 {place : Nat -> Option (Nat × Nat)} {cells : Array Value} {i : Nat} {v : Value} {rest : List (Nat × Value)} {off sz : Nat} (hp : place i = some (off, sz)) (hs : v.cells.size = sz) (hle : off + sz <= cells.size) :
  Instr.fill place cells ((i, v) :: rest) = Instr.fill place (lay cells off v) rest := by
 simp only [Instr.fill, hp]
 rw [if_neg (by simp [hs]; omega)]
 rfl
theorem y79 {place : Nat -> Option (Nat × Nat)} : ∀ {parts : List (Nat × Value)} {cells : Array Value},
  (∀ p, p ∈ parts -> ∃ off sz, place p.1 = some (off, sz) /\ p.2.cells.size = sz /\ off + sz <= cells.size) ->
  (parts.map Prod.fst).Nodup -> (∀ i j o1 s1 o2 s2, i ≠ j -> place i = some (o1, s1) -> place j = some (o2, s2) -> o1 + s1 <= o2 \/ o2 + s2 <= o1) ->
  ∃ cells', Instr.fill place cells parts = some cells' /\ cells'.size = cells.size /\
   (∀ p, p ∈ parts -> ∀ off sz, place p.1 = some (off, sz) -> (cells'.toList.drop off).take sz = p.2.cells.toList) /\
   ∀ i off sz, place i = some (off, sz) -> i ∉ parts.map Prod.fst -> (cells'.toList.drop off).take sz = (cells.toList.drop off).take sz
 | [], cells, _, _, _ => ⟨cells, rfl, rfl, (fun p h => by cases h), fun _ _ _ _ _ => rfl⟩
 | (i, v) :: rest, cells, h1, h2, h3 => by
  obtain ⟨off, sz, hp, hs, hle⟩ := h1 _ (List.mem_cons_self ..)
  simp only at hp hs
  simp only [List.map_cons, List.nodup_cons] at h2
  obtain ⟨cells', g1, g2, g3, g4⟩ := y79 (parts := rest) (cells := lay cells off v) (fun p hp => by
    obtain ⟨o1, s1, k1, k2, k3⟩ := h1 p (List.mem_cons_of_mem _ hp)
    exact ⟨o1, s1, k1, k2, by rw [lay_size]; exact k3⟩) h2.2 h3
  refine ⟨cells', by rw [wc9 hp hs hle]; exact g1, by rw [g2, lay_size], fun p hpm o1 s1 hp1 => ?_, fun j o1 s1 hj hn => ?_⟩
  ·rcases List.mem_cons.1 hpm with rfl | hpm
   ·simp only at hp1
    rw [hp] at hp1; cases hp1
    rw [g4 i off sz hp h2.1]
    apply List.ext_getElem?
    intro j
    simp only [List.getElem?_take, List.getElem?_drop, Array.getElem?_toList, we8]
    split
    ·rw [if_pos ⟨by omega, by omega, by omega⟩, Nat.add_sub_cancel_left]
    ·rw [Array.getElem?_eq_none (by omega)]
   ·exact g3 p hpm o1 s1 hp1
  ·simp only [List.map_cons, List.mem_cons, not_or] at hn
   rw [g4 j o1 s1 hj hn.2]
   refine wn9 (lay_size ..) fun q hq1 hq2 => ?_
   rw [we8, if_neg]
   rintro ⟨q1, q2, _⟩
   rcases h3 i j off sz o1 s1 (fun e => hn.1 e.symm) hp hj with h | h <;> omega
theorem y63 {α : Type} {n : Nat} : ∀ {l : List (Nat × α)}, (look n l).isSome = false -> n ∉ l.map Prod.fst
 | [], _ => by simp
 | (m, a) :: l, h => by
  by_cases e : n = m
  ·subst e; simp [z1m] at h
  ·rw [z16 _ _ e] at h
   simp only [List.map_cons, List.mem_cons, not_or]
   exact ⟨e, y63 h⟩
theorem y64 (k : Rel Pr w0 stk s a.tmps w G) : ∀ {parts : List (Nat × Operand)} {ps : List (Nat × List LV)}, y0c s parts = some ps ->
  (parts.map Prod.fst) = ps.map Prod.fst /\ (ps.map Prod.fst).Nodup /\ (∀ i l, look i ps = some l -> ∃ v, (i, v) ∈ parts.map (fun p => (p.1, a.eval p.2)) /\ LsRd w G.I G.h l v.cells.toList) /\
   (∀ i v, (i, v) ∈ parts.map (fun p => (p.1, a.eval p.2)) -> ∃ l, look i ps = some l /\ LsRd w G.I G.h l v.cells.toList)
 | [], ps, h => by simp [y0c] at h; subst h; exact ⟨rfl, List.nodup_nil, (fun i l h => by simp [look] at h), (fun i v h => by cases h)⟩
 | (i, x) :: parts, ps, h => by
  simp only [y0c, Option.bind_eq_some_iff] at h
  obtain ⟨l, hl, m, hm, h⟩ := h
  split at h
  ·cases h
  ·rename_i hn
   cases h
   obtain ⟨h1, h2, h3, h4⟩ := y64 k hm
   have hni : i ∉ m.map Prod.fst := y63 (by simpa using hn)
   refine ⟨by simp [h1], by simp [hni, h2], fun j l' hj => ?_, fun j v hv => ?_⟩
   ·by_cases e : j = i
    ·subst e
     rw [z1m] at hj; cases hj
     exact ⟨a.eval x, by simp, (k.ev x).leaves hl⟩
    ·rw [z16 _ _ e] at hj
     obtain ⟨v, hv, hv'⟩ := h3 j l' hj
     exact ⟨v, List.mem_cons_of_mem _ hv, hv'⟩
   ·simp only [List.map_cons, List.mem_cons, Prod.mk.injEq] at hv
    rcases hv with ⟨rfl, rfl⟩ | hv
    ·exact ⟨l, z1m .., (k.ev x).leaves hl⟩
    ·obtain ⟨l', g1, g2⟩ := h4 j v hv
     have : j ≠ i := by
      rintro rfl
      apply hni
      have : j ∈ parts.map Prod.fst := by
       obtain ⟨q, hq, e⟩ := List.mem_map.1 hv
       simp only [Prod.mk.injEq] at e
       exact List.mem_map.2 ⟨q, hq, e.1⟩
      rw [<- h1]; exact this
     exact ⟨l', by rw [z16 _ _ this]; exact g1, g2⟩
theorem zj3 {t : Ty} {ps : List (Nat × List LV)} : ∀ {n i : Nat} {xs : List t.den}, zk8 s t ps i n = some xs -> xs.length = n /\ ∀ (j : Nat) (x : t.den), xs[j]? = some x ->
  (∃ l, look (i + j) ps = some l /\ zt9 s t l = some x) \/ (look (i + j) ps = none /\ x = t.zero)
 | 0, i, xs, h => by simp [zk8] at h; subst h; exact ⟨rfl, fun j x hx => by simp at hx⟩
 | n + 1, i, xs, h => by
  simp only [zk8, Option.bind_eq_some_iff, Option.map_eq_some_iff] at h
  obtain ⟨x, hx, m, hm, rfl⟩ := h
  obtain ⟨h1, h2⟩ := zj3 hm
  refine ⟨by simp [h1], fun j y hy => ?_⟩
  cases j with
  | zero =>
   simp only [List.getElem?_cons_zero, Option.some.injEq] at hy
   subst hy
   rw [Nat.add_zero]
   cases hl : look i ps with
   | none => simp [hl] at hx; exact .inr ⟨rfl, hx.symm⟩
   | some l => simp [hl] at hx; exact .inl ⟨l, rfl, hx⟩
  | succ j =>
   have := h2 j y (by simpa using hy)
   rwa [show i + 1 + j = i + (j + 1) by omega] at this
theorem w1v {n : Nat} {l : List LV} {ps : List (Nat × List LV)} (h : look n ps = some l) : ∀ v ∈ l, v ∈ ps.flatMap Prod.snd :=
 fun _ hv => List.mem_flatMap.2 ⟨(n, l), zo4 h, hv⟩
theorem y0b {l m : List LV} (h : ∀ v ∈ l, v ∈ m) {b : Nat} : ownB s G l b -> ownB s G m b := fun ⟨v, hv, r⟩ => ⟨v, h v hv, r⟩
theorem y8m (k : Rel Pr w0 stk s a.tmps w G) {parts : List (Nat × Operand)} {ps : List (Nat × List LV)} (hp : y0c s parts = some ps) {t : Ty} {n : Nat} (hall : ∀ p ∈ ps, p.1 < n) {xs : List t.den}
  (he : zk8 s t ps 0 n = some xs) {cells : Array Value} (hs : cells.size = n * t.sz) (hz : ∀ i, i < n -> ∀ w I, Rd w I t t.zero ((cells.toList.drop (i * t.sz)).take t.sz)) :
  ∃ cells', Instr.fill (fun i => some (i * t.sz, t.sz)) cells (parts.map fun p => (p.1, a.eval p.2)) = some cells' /\ cells'.size = n * t.sz /\
   ∀ (i : Nat) (x : t.den), xs[i]? = some x -> Rd w (fun b => G.I b \/ ownB s G (ps.flatMap Prod.snd) b) t x ((cells'.toList.drop (i * t.sz)).take t.sz) := by
 obtain ⟨h1, h2, h3, h4⟩ := y64 k hp
 obtain ⟨hl, he⟩ := zj3 he
 have hfst : (parts.map fun p => (p.1, a.eval p.2)).map Prod.fst = ps.map Prod.fst := by rw [<- h1]; simp
 have hval : ∀ i v, (i, v) ∈ parts.map (fun p => (p.1, a.eval p.2)) -> i < n /\ ∃ x, xs[i]? = some x /\ Rd w (fun b => G.I b \/ ownB s G (ps.flatMap Prod.snd) b) t x v.cells.toList := by
  intro i v hv
  obtain ⟨l, g1, g2⟩ := h4 i v hv
  have hi : i < n := hall _ (zo4 g1)
  refine ⟨hi, xs[i]'(by omega), List.getElem?_eq_getElem _, ?_⟩
  rcases he i _ (List.getElem?_eq_getElem (by omega)) with ⟨l', e1, e2⟩ | ⟨e1, _⟩
  ·rw [Nat.zero_add, g1] at e1; cases e1
   exact (z9s k e2 g2).mono (fun _ _ => rfl) fun b hb => hb.imp id (y0b (w1v g1))
  ·rw [Nat.zero_add, g1] at e1; cases e1
 obtain ⟨cells', g1, g2, g3, g4⟩ := y79 (place := fun i => some (i * t.sz, t.sz)) (parts := parts.map fun p => (p.1, a.eval p.2)) (cells := cells) (fun p hpm => by
     obtain ⟨hi, x, _, hx⟩ := hval p.1 p.2 hpm
     have hle : (p.1 + 1) * t.sz <= n * t.sz := Nat.mul_le_mul_right _ hi
     rw [Nat.add_mul, Nat.one_mul] at hle
     have := hx.length
     exact ⟨_, _, rfl, by simpa using this, by omega⟩) (by rw [hfst]; exact h2) (fun i j o1 s1 o2 s2 hne e1 e2 => by
     cases e1; cases e2
     rcases Nat.lt_or_gt_of_ne hne with h | h
     · have : (i + 1) * t.sz <= j * t.sz := Nat.mul_le_mul_right _ h
       rw [Nat.add_mul, Nat.one_mul] at this
       exact .inl this
     · have : (j + 1) * t.sz <= i * t.sz := Nat.mul_le_mul_right _ h
       rw [Nat.add_mul, Nat.one_mul] at this
       exact .inr this)
 refine ⟨cells', g1, by rw [g2, hs], fun i x hx => ?_⟩
 have hi : i < n := by rw [<- hl]; exact (List.getElem?_eq_some_iff.1 hx).1
 by_cases hm : i ∈ (parts.map fun p => (p.1, a.eval p.2)).map Prod.fst
 ·obtain ⟨p, hpm, rfl⟩ := List.mem_map.1 hm
  obtain ⟨_, y, hy, hr'⟩ := hval p.1 p.2 hpm
  rw [hx] at hy; cases hy
  rw [g3 p hpm _ _ rfl]; exact hr'
 ·rw [g4 i _ _ rfl hm]
  rcases he i x hx with ⟨l, e1, _⟩ | ⟨_, rfl⟩
  ·rw [Nat.zero_add] at e1
   exact absurd (by rw [hfst]; exact List.mem_map.2 ⟨_, zo4 e1, rfl⟩) hm
  ·exact hz i hi _ _
theorem y6a (k : Rel Pr w0 stk s tm w G) {still : Bool} {l : List LV} {s' : MS} (h : s.solids? still l = some s') :
  ∃ G', Rel Pr w0 stk s' tm w G' /\ (∀ b, G.I b \/ ownB s G l b -> G'.I b) /\ G'.h = G.h /\ G'.bs = G.bs := by
 unfold MS.solids? at h
 cases still
 ·simp only [Bool.false_eq_true, if_false, Option.some.injEq] at h
  subst h
  exact k.solids l
 ·simp only [if_true] at h
  split at h
  ·rename_i hr
   cases h
   refine ⟨G, k, fun b hb => hb.elim id ?_, rfl, rfl⟩
   rintro ⟨v, hv, id, hid, _⟩
   have := List.all_eq_true.1 hr v hv
   rw [List.isEmpty_iff.1 this] at hid
   cases hid
  ·cases h
theorem y1b {z : Array Value} {n sz : Nat} (hz : z.size = sz) (_ : sz ≠ 0) {i : Nat} (hi : i < n) :
  ((((Array.range (n * sz)).map fun j => z[j % z.size]!).toList.drop (i * sz)).take sz) = z.toList := by
 have hle : (i + 1) * sz <= n * sz := Nat.mul_le_mul_right _ hi
 rw [Nat.add_mul, Nat.one_mul] at hle
 apply List.ext_getElem?
 intro j
 simp only [List.getElem?_take, List.getElem?_drop, Array.getElem?_toList, Array.getElem?_map]
 by_cases hj : j < sz
 ·rw [if_pos hj]
  have h1 : i * sz + j < (Array.range (n * sz)).size := by simp; omega
  rw [Array.getElem?_eq_getElem h1]
  simp only [Array.getElem_range, Option.map_some, hz]
  rw [Nat.mul_comm i sz, Nat.mul_add_mod, Nat.mod_eq_of_lt hj]
  rw [getElem!_pos z j (by omega), Array.getElem?_eq_getElem (by omega)]
 ·rw [if_neg hj, Array.getElem?_eq_none (by omega)]
theorem v26 (t : Ty) : t.unN.sz = t.sz := by cases t <;> rfl
theorem Rd.unN {w : World} {I : Nat -> Prop} {t : Ty} {cs : List Value} (h : Rd w I t t.zero cs) : Rd w I t.unN t.unN.zero cs := by
 cases t with
 | nsl t =>
  obtain ⟨A, n, c, h1, h2, _⟩ := h
  exact ⟨A, n, c, h1, h2⟩
 | _ => exact h
theorem yc2 (hE : EOk P E) (hP : ∀ b, Pr b -> b < w0.heap.size) (k : Rel Pr w0 stk s a.tmps w G) {still : Bool} {t : TypeId} {len : Nat} {parts : Array (Nat × Operand)} (ho : o.op = .buildSlice t len parts)
  (h : (match E.kd? t, y0c s parts.toList with
  | some (.slice e), some ps => match E.elTy e with
    | some u => if ps.all (fun p => decide (p.1 < len)) && decide (u.sz ≠ 0) && decide (len * u.sz <= 16777216) then (match zk8 s u ps 0 len with
      | some xs => match s.solids? still (ps.flatMap Prod.snd) with
        | some s' => match s'.mk? still (s.nm o.dst) (.buf u xs) with
          | some s'' => K (.one (.own (s.nm o.dst))) (s''.pinNN (s.nm o.dst))
          | none => none
        | none => none
      | none => none) else none
    | none => none
  | _, _ => none) = some r) : o.wp P a w (zb2 Pr w0 stk o a K r) Q := by
 split at h
 ·rename_i e ps hk hp
  split at h
  ·rename_i u hu
   split at h
   ·rename_i hc
    simp only [Bool.and_eq_true, decide_eq_true_eq, List.all_eq_true] at hc
    obtain ⟨⟨hall, h0⟩, hbig⟩ := hc
    split at h
    ·rename_i xs hx
     split at h
     ·rename_i s' hs'
      split at h
      ·rename_i s'' hm
       obtain ⟨u0, hu0, hue⟩ := Option.map_eq_some_iff.1 hu
       obtain ⟨ti, hti, rfl⟩ := z74 hu0
       obtain ⟨z, hz, hz1, hz2', hz3⟩ := y7z hE hti w
       have hsz0 := zg6 (w := w) hE (t := e) (z := ti.ty.sz) (by simp [Env.sz, hu0])
       have hz2 : ∀ (w : World) (I : Nat -> Prop), Rd w I u u.zero z.cells.toList := fun w I => hue ▸ (hz2' w I).unN
       have hus : ti.ty.sz = u.sz := by rw [<- hue, v26]
       rw [hus] at hsz0
       have hzs : z.cells.size = u.sz := by have := (hz2 w G.I).length; simpa using this
       obtain ⟨cells', g1, g2, g3⟩ := y8m k hp hall hx (cells := (Array.range (len * u.sz)).map fun j => z.cells[j % z.cells.size]!) (by simp)
        (fun i hi w I => by rw [y1b hzs h0 hi]; exact hz2 w I)
       obtain ⟨G', k', hI, hh, hb⟩ := y6a k hs'
       have hxl := (zj3 hx).1
       have hob : Ob (push w (.cells cells' e)) (G'.at (s.nm o.dst) (.slice (some ⟨w.heap.size, 0, none⟩) len len) [w.heap.size]) (s.nm o.dst) (.buf u xs) := by
        refine .inr ⟨w.heap.size, len, cells', e, (0, 0), by rw [hxl]; exact y1x .., zu0 .., by omega, zt5, yi9 _, by omega, fun i x hx => ?_⟩
        exact (g3 i x hx).mono (fun b hb => y3e (k'.isz b (hI b hb))) hI
       refine z3u (x := .slice (some ⟨w.heap.size, 0, none⟩) len len) (w' := push w (.cells cells' e)) ?_ ⟨.one (.own (s.nm o.dst)), s''.pinNN (s.nm o.dst), _, _, rfl, (yy4 hP k' hm hob).pinNN ⟨_, _, _, y1x ..⟩, ⟨rfl, _, _, _, y1x .., rfl⟩, h⟩
       unfold execOp
       have hsz := hsz0
       simp only [ho, Instr.buildSlice, Sem.run_bind, z2q (z67 hE hk), Result.andThen_ok, hsz]
       rw [if_neg (by omega)]
       by_cases e0 : len * u.sz = 0
       ·rw [if_pos e0]
        rw [e0] at g1
        have e1 : (Array.map (fun x => (#[] : Array Value)[x % (#[] : Array Value).size]!) (Array.range (len * u.sz))) = (Array.range 0).map fun j => z.cells[j % z.cells.size]! := by rw [e0]; simp
        simp only [pure_bind, Array.toList_map, e1, g1, Sem.run_bind, zc6, Result.andThen_ok, Sem.run_pure]
       ·rw [if_neg e0]
        simp only [Sem.run_bind, hz, Result.andThen_ok, pure_bind, Array.toList_map, g1, zc6, Sem.run_pure]
      ·cases h
     ·cases h
    ·cases h
   ·cases h
  ·cases h
 ·cases h
theorem w74 {α β : Type} {f : α -> Sem β} {g : α -> β} : ∀ {l : List α}, (∀ x, x ∈ l -> (f x).run P w = .ok (g x) w) -> (l.mapM f).run P w = .ok (l.map g) w
 | [], _ => rfl
 | x :: l, h => by
  simp only [List.mapM_cons, Sem.run_bind, h x (List.mem_cons_self ..), Result.andThen_ok, w74 fun y hy => h y (List.mem_cons_of_mem _ hy), Sem.run_pure, List.map_cons]
theorem ys2 : ∀ {fs : List Nat} {i : Nat} {p : Nat × Nat}, E.fieldAt fs i = some p -> i < fs.length
 | [], i, p, h => by simp [Env.fieldAt] at h
 | t :: r, 0, p, h => by simp
 | t :: r, i + 1, p, h => by
  simp only [Env.fieldAt, Option.bind_eq_some_iff, Option.map_eq_some_iff] at h
  obtain ⟨m, _, q, h, _⟩ := h
  have := ys2 h
  simp; omega
theorem y2t : ∀ {fs : List Nat} {i j : Nat} {n n' : Nat} {t t' : TypeId} {m : Nat}, E.fieldAt fs i = some (n, t) -> E.sz t = some m -> E.fieldAt fs j = some (n', t') -> i < j -> n + m <= n'
 | [], i, j, n, n', t, t', m, h, _, _, _ => by simp [Env.fieldAt] at h
 | u :: r, 0, j + 1, n, n', t, t', m, h, hm, h', _ => by
  simp only [Env.fieldAt, Option.some.injEq, Prod.mk.injEq] at h
  obtain ⟨rfl, rfl⟩ := h
  simp only [Env.fieldAt, Option.bind_eq_some_iff, Option.map_eq_some_iff, Prod.mk.injEq] at h'
  obtain ⟨m', hm', q, _, hq, _⟩ := h'
  rw [hm] at hm'; cases hm'
  omega
 | u :: r, i + 1, j + 1, n, n', t, t', m, h, hm, h', hij => by
  simp only [Env.fieldAt, Option.bind_eq_some_iff, Option.map_eq_some_iff, Prod.mk.injEq] at h h'
  obtain ⟨m1, hm1, ⟨q1, q2⟩, hq, hq1, hq2⟩ := h
  obtain ⟨m2, hm2, ⟨p1, p2⟩, hp, hp1, hp2⟩ := h'
  rw [hm1] at hm2; cases hm2
  simp only at hq1 hq2 hp1 hp2
  subst hq2
  have := y2t hq hm hp (by omega)
  omega
 | _ :: _, i, 0, _, _, _, _, _, _, _, _, hij => by omega
theorem yr7 {ps : List (Nat × List LV)} {zl : List LV} {fs0 : List Nat} {cells' : Array Value}
  (hpart : ∀ i l n t, look i ps = some l -> E.fieldAt fs0 i = some (n, t) -> ∀ m, E.sz t = some m -> cells l = m -> LsRd w G.I G.h l ((cells'.toList.drop n).take m))
  (hzero : ∀ i n t, look i ps = none -> E.fieldAt fs0 i = some (n, t) -> ∀ m, E.sz t = some m -> ∀ l, ws1 zl n m = some l -> LsRd w G.I G.h l ((cells'.toList.drop n).take m)) :
  ∀ {fs : List Nat} {i off : Nat} {l : List LV}, (∀ j, E.fieldAt fs0 (i + j) = (E.fieldAt fs j).map fun p => (off + p.1, p.2)) -> y0y E ps zl i off fs = some l ->
   ∃ n, LsRd w G.I G.h l ((cells'.toList.drop off).take n) /\ (∀ t, t ∈ fs -> (E.sz t).isSome) /\ n = (fs.map fun t => (E.sz t).getD 0).sum
 | [], i, off, l, _, h => by
  simp only [y0y, Option.some.injEq] at h
  subst h
  exact ⟨0, by simp [ArRd], (fun t h => by cases h), rfl⟩
 | t :: fs, i, off, l, hf, h => by
  simp only [y0y, Option.bind_eq_some_iff, Option.map_eq_some_iff] at h
  obtain ⟨m, hm, l1, h1, l2, h2, rfl⟩ := h
  have hi : E.fieldAt fs0 i = some (off, t) := by have := hf 0; simpa [Env.fieldAt] using this
  have k1 : LsRd w G.I G.h l1 ((cells'.toList.drop off).take m) := by
   cases hl : look i ps with
   | some l' =>
    simp only [hl] at h1
    split at h1
    ·rename_i hc; cases h1; exact hpart i _ _ _ hl hi m hm hc
    ·cases h1
   | none =>
    simp only [hl] at h1
    exact hzero i _ _ hl hi m hm _ h1
  obtain ⟨n, k2, k3, k4⟩ := yr7 hpart hzero (fs := fs) (i := i + 1) (off := off + m) (fun j => by
    have := hf (j + 1)
    rw [show i + 1 + j = i + (j + 1) by omega, this]
    simp only [Env.fieldAt, hm, Option.bind_some, Option.map_map]
    cases E.fieldAt fs j with
    | none => rfl
    | some p => simp; omega) h2
  refine ⟨m + n, ?_, ?_, by simp [hm, k4]⟩
  ·rw [List.take_add, List.drop_drop]
   exact LsRd.append k1 k2
  ·intro u hu
   rcases List.mem_cons.1 hu with rfl | hu
   ·simp [hm]
   ·exact k3 u hu
theorem y6w {ps : List (Nat × List LV)} {zl : List LV} : ∀ {fs : List Nat} {i off : Nat} {l : List LV}, y0y E ps zl i off fs = some l ->
  ∀ (j : Nat) (t : Nat), fs[j]? = some t -> ∃ m, E.sz t = some m /\ ∀ l', look (i + j) ps = some l' -> cells l' = m
 | [], i, off, l, _, j, t, hj => by simp at hj
 | u :: fs, i, off, l, h, j, t, hj => by
  simp only [y0y, Option.bind_eq_some_iff, Option.map_eq_some_iff] at h
  obtain ⟨m, hm, l1, h1, l2, h2, rfl⟩ := h
  cases j with
  | zero =>
   simp only [List.getElem?_cons_zero, Option.some.injEq] at hj
   subst hj
   refine ⟨m, hm, fun l' hl' => ?_⟩
   rw [Nat.add_zero] at hl'
   simp only [hl'] at h1
   split at h1
   ·assumption
   ·cases h1
  | succ j =>
   obtain ⟨m', g1, g2⟩ := y6w h2 j t (by simpa using hj)
   exact ⟨m', g1, fun l' hl' => g2 l' (by rw [show i + 1 + j = i + (j + 1) by omega]; exact hl')⟩
theorem w4d : ∀ {t : Ty} {n i : Nat} {p : Nat × Ty}, z4e t n i = some p -> p.1 + p.2.sz <= t.sz := by
 intro t
 induction t with
 | pair a b iha ihb =>
  intro n i p h
  match n, i, h with
  | n + 2, 0, h => simp only [z4e, Option.some.injEq] at h; subst h; simp [Ty.sz]
  | n + 2, i + 1, h =>
   simp only [z4e, Option.map_eq_some_iff] at h
   obtain ⟨q, hq, rfl⟩ := h
   have := ihb hq
   simp only [Ty.sz]; omega
  | 1, 0, h => simp only [z4e, Option.some.injEq] at h; subst h; simp
  | 0, i, h => simp [z4e] at h
  | 1, i + 1, h => simp [z4e] at h
 | _ =>
  intro n i p h
  match n, i, h with
  | 1, 0, h => simp only [z4e, Option.some.injEq] at h; subst h; simp
  | 0, i, h => simp [z4e] at h
  | n + 2, i, h => simp [z4e] at h
  | 1, i + 1, h => simp [z4e] at h
theorem w10 (hE : EOk P E) (k : Rel Pr w0 stk s a.tmps w G) {t : TypeId} {parts : Array (Nat × Operand)} (ho : o.op = .build t parts) {fs : List Nat} {ps : List (Nat × List LV)} {zl l : List LV}
  (hk : E.kd? t = some (.st fs)) (hp : y0c s parts.toList = some ps) (hall : ∀ p, p ∈ ps -> p.1 < fs.length) (hzl : E.zeroL 20 t = some zl) (hl : y0y E ps zl 0 0 fs = some l) (h : K (.agg l) s = some r) :
  o.wp P a w (zb2 Pr w0 stk o a K r) Q := by
 obtain ⟨ti, hti, hkd⟩ := ze3 hk
 obtain ⟨z, hz, hz1, hz2, hz3⟩ := y7z hE hti w
 obtain ⟨d, hd, ha, hm⟩ := (hE.te t ti hti).und
 rw [hkd] at hm
 obtain ⟨hsum, fields, rfl, hsz, hfall⟩ := hm
 obtain ⟨h1, h2, h3, h4⟩ := y64 k hp
 have hf := y6w hl
 have hzs : z.cells.size = ti.ty.sz := by have := (hz2 w G.I).length; simpa using this
 -- every field: where it lies
 have hfield : ∀ i, i < fs.length -> ∃ n t' m f, E.fieldAt fs i = some (n, t') /\ E.sz t' = some m /\ fields[i]? = some f /\ f.type = t' /\ f.offset = n /\ n + m <= z.cells.size /\
   ∀ l', look i ps = some l' -> cells l' = m := by
  intro i hi
  obtain ⟨t', n, g1, g2, g3, g4, g5⟩ := hfall i fields[i] (Array.getElem?_eq_getElem (by omega))
  obtain ⟨m, q1, q2⟩ := hf i t' g1
  refine ⟨n, t', m, fields[i], g2, q1, Array.getElem?_eq_getElem (by omega), g3, g4, ?_, fun l' hl' => q2 l' (by rw [Nat.zero_add]; exact hl')⟩
  unfold Env.sz at q1
  cases hty : E.ty? t' with
  | none => simp [hty] at q1
  | some u =>
   rw [hty] at g5 q1
   simp only [Option.map_some, Option.some.injEq] at g5 q1
   have := w4d g5
   simp only at this
   rw [hzs]; omega
 let g : Field -> Nat × Nat := fun f => (f.offset, (E.sz f.type).getD 0)
 have hplace : ∀ i n t' m, E.fieldAt fs i = some (n, t') -> E.sz t' = some m -> (fields.map g)[i]? = some (n, m) := by
  intro i n t' m e1 e2
  obtain ⟨n2, t2, m2, f, g1, g2, g3, g4, g5, _⟩ := hfield i (ys2 e1)
  rw [e1] at g1; cases g1
  rw [e2] at g2; cases g2
  simp only [Array.getElem?_map, g3, Option.map_some, Option.some.injEq]
  show (f.offset, (E.sz f.type).getD 0) = (n, m)
  rw [g4, g5, e2]; rfl
 have hplace' : ∀ i o1 s1, (fields.map g)[i]? = some (o1, s1) -> ∃ t', E.fieldAt fs i = some (o1, t') /\ E.sz t' = some s1 := by
  intro i o1 s1 e
  have hi : i < fs.length := by
   rw [<- hsz]
   have := (Array.getElem?_eq_some_iff.1 e).1
   simpa using this
  obtain ⟨n2, t2, m2, f, g1, g2, _⟩ := hfield i hi
  rw [hplace i _ _ _ g1 g2] at e
  cases e
  exact ⟨t2, g1, g2⟩
 have hfst : (parts.toList.map fun p => (p.1, a.eval p.2)).map Prod.fst = ps.map Prod.fst := by rw [<- h1]; simp
 obtain ⟨cells', c1, c2, c3, c4⟩ := y79 (place := fun i => (fields.map g)[i]?) (parts := parts.toList.map fun p => (p.1, a.eval p.2)) (cells := z.cells) (fun p hpm => by
     obtain ⟨l', e1, e2⟩ := h4 p.1 p.2 hpm
     obtain ⟨n, t', m, f, g1, g2, g3, g4, g5, g6, g7⟩ := hfield p.1 (hall _ (zo4 e1))
     refine ⟨n, m, hplace _ _ _ _ g1 g2, ?_, g6⟩
     have := e2.length
     rw [Array.length_toList, g7 l' e1] at this
     exact this) (by rw [hfst]; exact h2) (fun i j o1 s1 o2 s2 hne e1 e2 => by
     obtain ⟨t1, f1, q1⟩ := hplace' i o1 s1 e1
     obtain ⟨t2, f2, q2⟩ := hplace' j o2 s2 e2
     rcases Nat.lt_or_gt_of_ne hne with h | h
     · exact .inl (y2t f1 q1 f2 h)
     · exact .inr (y2t f2 q2 f1 h))
 obtain ⟨n, r1, _, r3⟩ := yr7 (w := w) (G := G) (cells' := cells') (ps := ps) (zl := zl) (fs0 := fs) (fun i l' n t' hl' e1 m e2 _ => by
     obtain ⟨v, hv, hr⟩ := h3 i l' hl'
     rw [c3 _ hv n m (hplace i n t' m e1 e2)]; exact hr) (fun i n t' hl' e1 m e2 l' hc => by
     rw [c4 i n m (hplace i n t' m e1 e2) (by rw [hfst]; intro hmem; obtain ⟨q, hq, rfl⟩ := List.mem_map.1 hmem; have := h4; cases hlk : look q.1 ps with
       | some l2 => rw [hl'] at hlk; cases hlk
       | none => exact y63 (by rw [hlk]; rfl) hmem)]
     obtain ⟨p1, q1, e3, e4, e5⟩ := zz4 hc
     have := hz3 zl hzl w G.I G.h
     rw [e3] at this
     have := this.mid.1
     rw [e4, e5] at this
     exact this) (fs := fs) (i := 0) (off := 0) (fun j => by simp) hl
 have hn : n = cells'.size := by rw [r3, hsum, c2, hzs]
 rw [hn, List.drop_zero, <- Array.length_toList, List.take_length] at r1
 refine z0r (v := .agg l) (x := .agg cells') k ?_ ⟨cells', rfl, r1⟩ h
 unfold execOp
 have hmap : (fields.mapM fun f => do pure (f.offset, <- Go.sizeOf f.type) : Sem (Array (Nat × Nat))).run P w = .ok (fields.map g) w := by
  rw [Array.mapM_eq_mapM_toList]
  simp only [Sem.run_map]
  rw [w74 (g := g) (fun f hf => ?_)]
  ·simp only [Result.andThen_ok]; congr 1; apply Array.ext'; simp
  ·obtain ⟨i, hi, rfl⟩ := List.getElem_of_mem hf
   rw [Array.length_toList] at hi
   obtain ⟨n2, t2, m2, f, g1, g2, g3, g4, g5, _⟩ := hfield i (by omega)
   rw [Array.getElem?_eq_getElem hi] at g3
   cases g3
   simp only [Array.getElem_toList, Sem.run_bind, g4, zg6 hE g2, Result.andThen_ok, Sem.run_pure]
   show _ = Result.ok (fields[i].offset, (E.sz fields[i].type).getD 0) w
   rw [g4, g2]; rfl
 simp only [ho, Instr.build, Sem.run_bind, hz, Result.andThen_ok, Sem.run_pure, z2q hd, hmap, Array.toList_map, c1]
theorem wr6 {n : Nat} {t : Ty} {cs : List Value} (_ : Rd w (fun _ => True) (.arr n t) (Ty.zero (.arr n t)) cs) (hall : ∀ w I, Rd w I (.arr n t) (Ty.zero (.arr n t)) cs) {i : Nat} (hi : i < n) :
  ∀ w I, Rd w I t t.zero ((cs.drop (i * t.sz)).take t.sz) := by
 intro w I
 obtain ⟨_, hk⟩ := hall w I
 have : (Ty.zero (.arr n t) : List t.den)[i]? = some t.zero := by
  show (List.replicate n t.zero)[i]? = _
  simp [hi]
 exact ArRd.at (R := Rd w I t) (fun _ _ => Rd.length) hk this
theorem ArRd.of_chunks {α : Type} {R : α -> List Value -> Prop} {sz : Nat} : ∀ {xs : List α} {cs : List Value}, cs.length = xs.length * sz -> (∀ (i : Nat) (x : α), xs[i]? = some x -> R x ((cs.drop (i * sz)).take sz)) -> ArRd R xs cs
 | [], cs, h, _ => by simp at h; simp [ArRd, h]
 | x :: xs, cs, h, hc => by
  refine ⟨cs.take sz, cs.drop sz, by simp, ?_, ArRd.of_chunks (sz := sz) ?_ fun i y hy => ?_⟩
  ·have := hc 0 x (by simp)
   simpa using this
  ·simp only [List.length_cons, Nat.add_mul, Nat.one_mul] at h
   rw [List.length_drop]; omega
  ·have := hc (i + 1) y (by simpa using hy)
   rw [List.drop_drop]
   rwa [Nat.add_mul, Nat.one_mul, Nat.add_comm] at this
theorem w3w (hE : EOk P E) (k : Rel Pr w0 stk s a.tmps w G) {still : Bool} {t : TypeId} {parts : Array (Nat × Operand)} (ho : o.op = .build t parts) {n e : Nat} {ps : List (Nat × List LV)} {u : Ty} {xs : List u.den} {s' : MS}
  (hk : E.kd? t = some (.ar n e)) (hp : y0c s parts.toList = some ps) (hu : E.ty? e = some u) (hall : ∀ p, p ∈ ps -> p.1 < n) (_ : u.sz ≠ 0) (hx : zk8 s u ps 0 n = some xs)
  (hs' : s.solids? still (ps.flatMap Prod.snd) = some s') (h : K (.agg [.val (.arr n u) xs]) s' = some r) : o.wp P a w (zb2 Pr w0 stk o a K r) Q := by
 obtain ⟨ti, hti, hkd⟩ := ze3 hk
 obtain ⟨z, hz, hz1, hz2, hz3⟩ := y7z hE hti w
 obtain ⟨d, hd, ha, hm⟩ := (hE.te t ti hti).und
 rw [hkd] at hm
 obtain ⟨rfl, te, hte, hty⟩ := hm
 obtain ⟨te', hte', hu'⟩ := z74 hu
 rw [hte] at hte'; cases hte'
 rw [hu'] at hty
 have hzz : ∀ w I, Rd w I (.arr n u) (Ty.zero (.arr n u)) z.cells.toList := by
  intro w I
  have := hz2 w I
  rw [hty] at this
  exact this
 have hzs : z.cells.size = n * u.sz := by have := (hzz w G.I).length; simpa [Ty.sz] using this
 obtain ⟨cells', g1, g2, g3⟩ := y8m k hp hall hx hzs (fun i hi => wr6 (hzz w _) hzz hi)
 obtain ⟨G', k', hI, hh, hb⟩ := y6a k hs'
 have hxl := (zj3 hx).1
 refine z3u (x := .agg cells') (w' := w) ?_ ⟨.agg [.val (.arr n u) xs], s', _, G', rfl, k', ⟨cells', rfl, LsRd.one ⟨hxl, ?_⟩⟩, h⟩
 ·unfold execOp
  have hsz := zg6 (w := w) hE (t := e) (z := u.sz) (by simp [Env.sz, hu])
  simp only [ho, Instr.build, Sem.run_bind, hz, Result.andThen_ok, z2q hd, hsz, Array.toList_map, g1, Sem.run_pure]
 ·exact ArRd.of_chunks (by rw [Array.length_toList, g2, hxl]) fun i x hx => (g3 i x hx).mono (fun _ _ => rfl) hI
theorem w3x (hE : EOk P E) (k : Rel Pr w0 stk s a.tmps w G) {still : Bool} {t : TypeId} {parts : Array (Nat × Operand)} (ho : o.op = .build t parts)
  (h : (match E.kd? t, y0c s parts.toList with
  | some (.st fs), some ps => if ps.all (fun p => decide (p.1 < fs.length)) then (match (E.zeroL 20 t).bind fun zl => y0y E ps zl 0 0 fs with
    | some l => K (.agg l) s
    | none => none) else none
  | some (.ar n e), some ps => match E.ty? e with
    | some u => if ps.all (fun p => decide (p.1 < n)) && decide (u.sz ≠ 0) then (match zk8 s u ps 0 n with
      | some xs => match s.solids? still (ps.flatMap Prod.snd) with
        | some s => K (.agg [.val (.arr n u) xs]) s
        | none => none
      | none => none) else none
    | none => none
  | _, _ => none) = some r) : o.wp P a w (zb2 Pr w0 stk o a K r) Q := by
 split at h
 ·rename_i fs ps hk hp
  split at h
  ·rename_i hall
   split at h
   ·rename_i l hl
    simp only [Option.bind_eq_some_iff] at hl
    obtain ⟨zl, hzl, hl⟩ := hl
    simp only [List.all_eq_true, decide_eq_true_eq] at hall
    exact w10 hE k ho hk hp hall hzl hl h
   ·cases h
  ·cases h
 ·rename_i n e ps hk hp
  split at h
  ·rename_i u hu
   split at h
   ·rename_i hc
    simp only [Bool.and_eq_true, decide_eq_true_eq, List.all_eq_true] at hc
    split at h
    ·rename_i xs hx
     split at h
     ·rename_i s' hs'
      exact w3w hE k ho hk hp hu hc.1 hc.2 hx hs' h
     ·cases h
    ·cases h
   ·cases h
  ·cases h
 ·cases h
theorem w6e {n : Int} (h0 : 0 <= n) (h1 : n < 9223372036854775808) : IntKind.i64.wrap n = n := by
 unfold IntKind.wrap
 have e : IntKind.i64.bits = 64 := rfl
 have e2 : IntKind.i64.signed = true := rfl
 simp only [e, e2, Bool.true_and, decide_eq_true_eq]
 rw [Int.emod_eq_of_lt h0 (by omega)]
 rw [if_neg (by omega)]
theorem run_makeSlice (w : World) (hE : EOk P E) {t e : TypeId} {te : TI} (hk : E.kd? t = some (.slice e)) (hte : E.ti e = some te) (hz0 : te.ty.sz ≠ 0) (hb0 : te.bytes ≠ 0) {l c : Int} (h0 : 0 <= l) (h1 : l <= c)
  (h2 : c * te.bytes <= 281474976710656) : ∃ (C : Array Value) (z : Value), (∀ w, (Instr.makeSlice t (.int .i64 l) (.int .i64 c)).run P w = .ok (.slice (some ⟨w.heap.size, 0, none⟩) l.toNat c.toNat) (push w (.cells C e))) /\
   C.size = c.toNat * te.ty.sz /\ (∀ i, i < c.toNat -> ((C.toList.drop (i * te.ty.sz)).take te.ty.sz) = z.cells.toList) /\ (∀ w I, Rd w I te.ty te.ty.zero z.cells.toList) /\ (∀ l, E.zeroL 20 e = some l -> ∀ w I h, LsRd w I h l z.cells.toList) := by
 obtain ⟨i, hi, his, hib, z, hzi, _, hz2, hz3⟩ := (hE.te e te hte).info
 have hz : ∀ w, (zeroValue e).run P w = .ok z w := fun w => by simp [zeroValue, typeInfo, hi, hzi]
 have hcb : c <= 281474976710656 := by
  have : (1 : Int) <= te.bytes := by omega
  have : c * 1 <= c * te.bytes := Int.mul_le_mul_of_nonneg_left this (by omega)
  omega
 have wl : IntKind.i64.wrap l = l := w6e h0 (by omega)
 have wc : IntKind.i64.wrap c = c := w6e (by omega) (by omega)
 have hzs : ∀ w : World, z.cells.size = te.ty.sz := fun w => by have := (hz2 w fun _ => True).length; simpa using this
 refine ⟨(Array.range (c.toNat * te.ty.sz)).map fun j => z.cells[j % z.cells.size]!, z, fun w => ?_, by simp, fun i hi => y1b (hzs w) hz0 hi, hz2, hz3⟩
 have hti : (typeInfo e).run P w = .ok i w := by simp [typeInfo, hi]
 have hsz : (Go.sizeOf e).run P w = .ok te.ty.sz w := zg6 hE (by simp [Env.sz, Env.ty?, hte]) w
 have hlarge : (decide (c < 0) || decide (↑i.bytes * c > 281474976710656)) = false := by
  rw [hib, Int.mul_comm]
  simp only [Bool.or_eq_false_iff, decide_eq_false_iff_not]
  omega
 unfold Instr.makeSlice
 simp only [Sem.run_bind, z2q (z67 hE hk), Result.andThen_ok, asInt, asIntOf, Sem.run_pure, hti, wl, wc]
 have e48 : (2 : Int) ^ 48 = 281474976710656 := by decide
 simp only [e48, hlarge, Bool.false_or]
 rw [if_neg (by simp; omega)]
 simp only [Sem.run_bind, run_askRoom, Result.andThen_ok, hsz]
 by_cases e0 : c.toNat * te.ty.sz = 0
 ·rw [if_pos e0]
  have e1 : (Array.map (fun x => (#[] : Array Value)[x % (#[] : Array Value).size]!) (Array.range (c.toNat * te.ty.sz))) = (Array.range (c.toNat * te.ty.sz)).map fun j => z.cells[j % z.cells.size]! := by rw [e0]; simp
  simp only [pure_bind, e1, Sem.run_bind, zc6, Result.andThen_ok, Sem.run_pure]
 ·rw [if_neg e0]
  simp only [Sem.run_bind, hz, Result.andThen_ok, pure_bind, zc6, Sem.run_pure]
theorem yk2 (hE : EOk P E) (hP : ∀ b, Pr b -> b < w0.heap.size) (k : Rel Pr w0 stk s a.tmps w G) {still : Bool} {t : TypeId} {len cap : Operand} (ho : o.op = .makeSlice t len cap)
  (h : (match E.kd? t, s.ev len, s.ev cap with
  | some (.slice e), .one (.val (.int .i64) l), .one (.val (.int .i64) c) => match E.ti e with
    | some te => if te.ty.sz ≠ 0 /\ te.bytes ≠ 0 then (if 0 <= l then (if l <= c then (if c * te.bytes <= 281474976710656 then
        (match s.mk? still (s.nm o.dst) (zl9 (E.flat.contains e) te.kd te.ty l.toNat) with
        | some s' => K (.one (.own (s.nm o.dst))) s'
        | none => none) else none) else none) else none) else none
    | none => none
  | _, _, _ => none) = some r) : o.wp P a w (zb2 Pr w0 stk o a K r) Q := by
 have kl := k.ev len
 have kc := k.ev cap
 split at h
 ·rename_i e l c hk el ec
  rw [el] at kl; rw [ec] at kc
  have vl := z4x kl
  have vc := z4x kc
  split at h
  ·rename_i te hte
   split at h
   ·rename_i hst
    split at h
    ·rename_i h0
     split at h
     ·rename_i h1
      split at h
      ·rename_i h2
       split at h
       ·rename_i s' hm
        obtain ⟨C, z, g1, g2, g3, g4, g5⟩ := run_makeSlice w hE hk hte hst.1 hst.2 h0 h1 h2
        have hlc : l.toNat <= c.toNat := Int.toNat_le_toNat h1
        have hob : Ob (push w (.cells C e)) (G.at (s.nm o.dst) (.slice (some ⟨w.heap.size, 0, none⟩) l.toNat c.toNat) [w.heap.size]) (s.nm o.dst) (zl9 (E.flat.contains e) te.kd te.ty l.toNat) := by
         unfold zl9
         split
         ·rename_i e' u _ hkd hty
          have hzl : E.zeroL 20 e = some [.nil] := by simp [Env.zeroL, hte, hkd]
          have hzc : z.cells.toList = [.slice none 0 0] := by
           obtain ⟨c1, c2, e1, e2, e3⟩ := g5 _ hzl w (fun _ => True) (fun _ => none)
           rw [e1, show c1 = _ from e2, show c2 = _ from e3]; rfl
          have hsz : te.ty.sz = 1 := by rw [hty]; rfl
          rw [hsz, Nat.mul_one] at g2
          refine ⟨w.heap.size, c.toNat, C, e, (0, 0), fun _ => [], by rw [List.length_replicate]; exact y1x .., by rw [List.length_replicate]; exact hlc, by omega, zt5, yi9 _, by rw [zu0]; simp, fun i _ b' hb' => (by cases hb'), fun i j _ _ _ b' hb' => (by cases hb'), fun i x hx _ => ?_, fun _ _ => rfl⟩
          rw [List.getElem?_replicate] at hx
          split at hx
          ·rename_i hi
           cases hx
           have h3 := g3 i (by omega)
           rw [hsz, Nat.mul_one, hzc, one_cell (by omega)] at h3
           simp only [List.cons.injEq, and_true] at h3
           exact .inl ⟨h3, rfl, rfl⟩
          ·cases hx
         refine .inr ⟨w.heap.size, c.toNat, C, e, (0, 0), by rw [List.length_replicate]; exact y1x .., zu0 .., by rw [List.length_replicate]; exact hlc, zt5, yi9 _, by omega, fun i x hx => ?_⟩
         rw [List.getElem?_replicate] at hx
         split at hx
         ·cases hx; rw [g3 i (by omega)]; exact g4 _ _
         ·cases hx
        refine z3u (x := .slice (some ⟨w.heap.size, 0, none⟩) l.toNat c.toNat) (w' := push w (.cells C e)) ?_ ⟨.one (.own (s.nm o.dst)), s', _, _, rfl, yy4 hP k hm hob, ⟨rfl, _, _, _, y1x .., rfl⟩, h⟩
        unfold execOp
        simp only [ho, vl, vc, Sem.run_bind, g1 w, Result.andThen_ok, Sem.run_pure]
       ·cases h
      ·cases h
     ·cases h
    ·cases h
   ·cases h
  ·cases h
 ·cases h
theorem y5u : ∀ (ns : List Int) (b : ByteArray), ns.foldl (fun r n => r.push (UInt8.ofNat n.toNat)) b = ⟨(b.data.toList ++ ns.map fun n => UInt8.ofNat n.toNat).toArray⟩
 | [], b => by simp
 | n :: ns, b => by
  rw [List.foldl_cons, y5u ns]
  congr 1
  simp [ByteArray.push]
theorem w8c {kk : IntKind} {I : Nat -> Prop} : ∀ {xs : List Int} {cs : List Value}, ArRd (Rd w I (.int kk)) xs cs -> cs = xs.map (Value.int kk)
 | [], cs, h => h
 | x :: xs, _, ⟨c1, c2, e, h1, h2⟩ => by
  have h1 : c1 = [.int kk x] := h1
  rw [e, h1, w8c h2]; rfl
end
end Vm
/- Writing: cells of a block of one's own. -/
namespace Vm
open Go
def wr (w : World) (b : Nat) (C : Array Value) (T : TypeId) (fz : Nat × Nat) : World := { w with heap := w.heap.setIfInBounds b (.cells C T fz) }
theorem v0j {w : World} {b : Nat} {C : Array Value} {T : TypeId} {fz : Nat × Nat} (h : w.heap[b]? = some (.cells C T fz)) : wr w b C T fz = w := by
 have : w.heap.setIfInBounds b (.cells C T fz) = w.heap := by
  apply Array.ext_getElem?
  intro i
  rw [Array.getElem?_setIfInBounds]
  split
  ·rename_i e; subst e; rw [h, if_pos (Array.getElem?_eq_some_iff.1 h).1]
  ·rfl
 unfold wr; rw [this]
theorem y0j {w : World} {b : Nat} {C : Array Value} {T : TypeId} {fz : Nat × Nat} (h : b < w.heap.size) : (wr w b C T fz).heap[b]? = some (.cells C T fz) := by
 simp [wr, h]
theorem wr_ne {w : World} {b c : Nat} {C : Array Value} {T : TypeId} {fz : Nat × Nat} (h : c ≠ b) : (wr w b C T fz).heap[c]? = w.heap[c]? := by
 have : b ≠ c := fun e => h e.symm
 simp [wr, this]
theorem wr_size {w : World} {b : Nat} {C : Array Value} {T : TypeId} {fz : Nat × Nat} : (wr w b C T fz).heap.size = w.heap.size := by simp [wr]
theorem v3o {w : World} {b : Nat} {C D : Array Value} {T : TypeId} {fz : Nat × Nat} : wr (wr w b C T fz) b D T fz = wr w b D T fz := by
 simp [wr]
theorem w8w {w : World} {b o : Nat} {C : Array Value} {T : TypeId} {fz : Nat × Nat} (h : b < w.heap.size) (v : Value) :
  (wr w b C T fz).setCell ⟨b, o, none⟩ v = wr w b (C.setIfInBounds o v) T fz := by
 unfold World.setCell wr
 congr 1
 apply Array.ext_getElem?
 intro i
 rw [Array.getElem?_modify, Array.getElem?_setIfInBounds, Array.getElem?_setIfInBounds]
 by_cases e : b = i
 ·subst e; simp [h]
 ·simp [e]
def y1u (C : Array Value) (k : Nat) : List Value -> Array Value
 | [] => C
 | v :: r => y1u (C.setIfInBounds k v) (k + 1) r
theorem z3e : ∀ (vs : List Value) (C : Array Value) (k : Nat), (y1u C k vs).size = C.size
 | [], _, _ => rfl
 | v :: r, C, k => by rw [y1u, z3e r]; simp
theorem y7w : ∀ (vs : List Value) (C : Array Value) (k j : Nat), (y1u C k vs)[j]? = if k <= j /\ j < k + vs.length /\ j < C.size then vs[j - k]? else C[j]?
 | [], C, k, j => by
  rw [y1u, if_neg]; simp only [List.length_nil]; omega
 | v :: r, C, k, j => by
  rw [y1u, y7w r, Array.getElem?_setIfInBounds]
  simp only [List.length_cons, Array.size_setIfInBounds]
  by_cases e : k = j
  ·subst e
   rw [if_neg (by omega), if_pos rfl]
   by_cases h : k < C.size
   ·rw [if_pos h, if_pos ⟨by omega, by omega, h⟩]; simp
   ·rw [if_neg h, if_neg (by omega), Array.getElem?_eq_none (by omega)]
  ·rw [if_neg e]
   by_cases h : k + 1 <= j /\ j < k + 1 + r.length /\ j < C.size
   ·rw [if_pos h, if_pos (by omega), show j - k = (j - (k + 1)) + 1 by omega]; rfl
   ·rw [if_neg h, if_neg (by omega)]
theorem zt7 {C : Array Value} {k : Nat} {vs : List Value} (h : k + vs.length <= C.size) :
  (y1u C k vs).toList = C.toList.take k ++ vs ++ C.toList.drop (k + vs.length) := by
 apply List.ext_getElem?
 intro j
 rw [Array.getElem?_toList, y7w]
 have hk : (C.toList.take k).length = k := by simp; omega
 by_cases h1 : j < k
 ·rw [if_neg (by omega), List.getElem?_append_left (by simp; omega), List.getElem?_append_left (by omega), List.getElem?_take_of_lt h1, Array.getElem?_toList]
 ·by_cases h2 : j < k + vs.length
  ·rw [if_pos ⟨by omega, h2, by omega⟩, List.getElem?_append_left (by simp; omega), List.getElem?_append_right (by omega), hk]
  ·rw [if_neg (by omega), List.getElem?_append_right (by simp; omega), List.getElem?_drop, <- Array.getElem?_toList]
   congr 1
   simp; omega
theorem w23 {v : Value} (h : cell1 v = true) : v.oneCell' = true := by
 cases v <;> first | rfl | simp [cell1] at h
theorem wd2 {w : World} {b o : Nat} {C : Array Value} {T : TypeId} {fz : Nat × Nat} (h : b < w.heap.size) (hf : yq5 C fz) (ho : o < C.size) :
  (wr w b C T fz).frozen? ⟨b, o, none⟩ = false := by
 unfold World.frozen?
 simp only [y0j h]
 unfold yq5 at hf
 simp
 omega
theorem z78 {C D : Array Value} {fz : Nat × Nat} (h : D.size = C.size) (hf : yq5 C fz) : yq5 D fz := by
 unfold yq5 at hf ⊢; rw [h]; exact hf
theorem y0e {P : Program} {w : World} {b : Nat} {T : TypeId} {fz : Nat × Nat} (hb : b < w.heap.size) (o : Nat) : ∀ (vs : List Value) (C : Array Value) (i : Nat), yq5 C fz -> o + i + vs.length <= C.size -> (∀ v ∈ vs, cell1 v = true) ->
  (storeCells ⟨b, o, none⟩ vs i).run P (wr w b C T fz) = .ok () (wr w b (y1u C (o + i) vs) T fz)
 | [], _, _, _, _, _ => rfl
 | v :: r, C, i, hf, hz, h1 => by
  have hst : (store ((⟨b, o, none⟩ : Addr).add i) v).run P (wr w b C T fz) = .ok () (wr w b (C.setIfInBounds (o + i) v) T fz) := by
   rw [addr_add, run_store P _ _ v _ (w23 (h1 v (by simp)))]
   have hlt : o + i < C.size := by simp only [List.length_cons] at hz; omega
   rw [cell?_at (y0j hb), Array.getElem?_eq_getElem hlt]
   simp only [wd2 hb hf hlt, w8w hb, Bool.false_eq_true, if_false]
  have ih := y0e (P := P) (w := w) (T := T) hb o r (C.setIfInBounds (o + i) v) (i + 1) (z78 (by simp) hf) (by simp only [List.length_cons, Array.size_setIfInBounds] at hz ⊢; omega) (fun x hx => h1 x (by simp [hx]))
  simp only [storeCells, Sem.run_bind, hst, Result.andThen_ok, ih, y1u]
  rw [show o + (i + 1) = o + i + 1 by omega]
theorem z4t {P : Program} {w : World} {b o : Nat} {C : Array Value} {T : TypeId} {fz : Nat × Nat} {vs : List Value} (h : w.heap[b]? = some (.cells C T fz)) (hf : yq5 C fz) (hz : o + vs.length <= C.size)
  (h1 : ∀ v ∈ vs, cell1 v = true) : (storeCells ⟨b, o, none⟩ vs).run P w = .ok () (wr w b (y1u C o vs) T fz) := by
 have := y0e (P := P) (T := T) (fz := fz) (Array.getElem?_eq_some_iff.1 h).1 o vs C 0 hf hz h1
 rw [v0j h] at this
 exact this
end Vm
/- A store: into a variable, an array in one, an element of an owned slice. -/
namespace Vm
open Go
theorem wk0 {α : Type} (L vs : List α) (lo len k : Nat) (h1 : k + vs.length <= len) (h2 : lo + len <= L.length) :
  ((L.take (lo + k) ++ vs ++ L.drop (lo + k + vs.length)).drop lo).take len = ((L.drop lo).take len).take k ++ vs ++ ((L.drop lo).take len).drop (k + vs.length) := by
 obtain ⟨A, R, rfl, hA⟩ : ∃ A R, L = A ++ R /\ A.length = lo := ⟨L.take lo, L.drop lo, (List.take_append_drop ..).symm, by simp; omega⟩
 subst hA
 simp only [List.length_append] at h2
 obtain ⟨B, R', rfl, hB⟩ : ∃ B R', R = B ++ R' /\ B.length = k := ⟨R.take k, R.drop k, (List.take_append_drop ..).symm, by simp; omega⟩
 subst hB
 simp only [List.length_append] at h2
 obtain ⟨V, R'', rfl, hV⟩ : ∃ V R'', R' = V ++ R'' /\ V.length = vs.length := ⟨R'.take vs.length, R'.drop vs.length, (List.take_append_drop ..).symm, by simp; omega⟩
 have e1 : (A ++ (B ++ (V ++ R''))).take (A.length + B.length) = A ++ B := by
  rw [<- List.append_assoc, <- List.length_append, List.take_left']; rfl
 have e2 : (A ++ (B ++ (V ++ R''))).drop (A.length + B.length + vs.length) = R'' := by
  rw [<- hV, <- List.append_assoc, <- List.append_assoc, <- List.length_append, <- List.length_append, List.drop_left']; rfl
 rw [e1, e2, List.drop_left' rfl]
 have e3 : (A ++ B ++ vs ++ R'').drop A.length = B ++ (vs ++ R'') := by rw [List.append_assoc, List.append_assoc, List.drop_left' rfl]
 rw [e3]
 obtain ⟨m, rfl⟩ : ∃ m, len = B.length + (vs.length + m) := ⟨len - B.length - vs.length, by omega⟩
 have g1 : (B ++ (vs ++ R'')).take (B.length + (vs.length + m)) = B ++ (vs ++ R''.take m) := by
  rw [List.take_append, List.take_of_length_le (show B.length <= _ by omega), show B.length + (vs.length + m) - B.length = vs.length + m by omega,
    List.take_append, List.take_of_length_le (show vs.length <= _ by omega), show vs.length + m - vs.length = m by omega]
 have g2 : (B ++ (V ++ R'')).take (B.length + (vs.length + m)) = B ++ (V ++ R''.take m) := by
  rw [List.take_append, List.take_of_length_le (show B.length <= _ by omega), show B.length + (vs.length + m) - B.length = vs.length + m by omega,
    List.take_append, List.take_of_length_le (show V.length <= _ by omega), show vs.length + m - V.length = m by omega]
 rw [g1, g2, List.take_left' rfl, <- hV, <- List.append_assoc B V, List.drop_left' (by simp)]
 simp [List.append_assoc]
theorem wj9 {α : Type} (L vs : List α) (lo len p : Nat) (h2 : p + vs.length <= L.length) (h : lo + len <= p \/ p + vs.length <= lo) :
  ((L.take p ++ vs ++ L.drop (p + vs.length)).drop lo).take len = (L.drop lo).take len := by
 apply List.ext_getElem?
 intro j
 simp only [List.getElem?_take, List.getElem?_drop, List.getElem?_append, List.length_append, List.length_take]
 split
 ·rename_i hj
  rcases h with h | h
  ·rw [if_pos (by omega), if_pos (by omega), if_pos (by omega)]
  ·rw [if_neg (by omega)]
   congr 1; omega
 ·rfl
section
variable {ρ : Type} {P : Program} {E : Env} {Pr : Nat -> Prop} {w0 : St} {w : World} {stk : List (Array Value)} {s : MS} {a : Act} {G : Gh} {o : Oper} {Q : Exit -> Act -> World -> Prop} {K : AV -> MS -> Option ρ} {r : ρ} {tm : Array Value}
theorem z8a (hE : EOk P E) {t : TypeId} {u : Ty} (ht : E.ty? t = some u) {b off : Nat} {C : Array Value} {T : TypeId} {fz : Nat × Nat} {x : Value} (h : w.heap[b]? = some (.cells C T fz)) (hf : yq5 C fz)
  (hx : x.cells.size = u.sz) (hz : off + u.sz <= C.size) (h1 : ∀ c ∈ x.cells.toList, cell1 c = true) :
  (storeVar t ⟨b, off, none⟩ x).run P w = .ok () (wr w b (y1u C off x.cells.toList) T fz) := by
 have hs : E.sz t = some u.sz := by simp [Env.sz, ht]
 unfold storeVar
 simp only [Sem.run_bind, zg6 hE hs, Result.andThen_ok, hx, ne_eq, not_true_eq_false, if_false]
 exact z4t h hf (by simpa [hx] using hz) h1
theorem z7w {t : TypeId} {x y : Operand} (ho : o.op = .store t x y) {b off : Nat} (hx : a.eval x = .pointer (some ⟨b, off, none⟩)) {w' : World}
  (h : (storeVar t ⟨b, off, none⟩ (a.eval y)).run P w = .ok () w') : (execOp a.eval o).run P w = .ok .skip w' := by
 unfold execOp
 simp only [ho, Instr.storeAt, hx, Instr.sureAddr, Sem.run_bind, Sem.run_pure, Result.andThen_ok, h]
theorem wi9 {I : Nat -> Prop} {h : Hv} {l new l' : List LV} {off n : Nat} (hs : v2e l off n new = some l') {cs L : List Value} (k : LsRd w I h l L) (k' : LsRd w I h new cs) :
  off + n <= L.length /\ LsRd w I h l' (L.take off ++ cs ++ L.drop (off + n)) := by
 unfold v2e at hs
 simp only [Option.bind_eq_some_iff, Option.some.injEq] at hs
 obtain ⟨p, hp, q, hq, rfl⟩ := hs
 obtain ⟨q', _, e1, c1⟩ := y6b hp
 obtain ⟨m, _, e2, c2⟩ := za0 hq
 have kp := k
 rw [e1] at kp
 obtain ⟨d1, d2, f1, k1, _⟩ := LsRd.split kp
 have kq := k
 rw [e2] at kq
 obtain ⟨d3, d4, f2, k3, k4⟩ := LsRd.split kq
 have l1 := k1.length
 have l3 := k3.length
 rw [c1] at l1
 rw [c2] at l3
 have t1 : L.take off = d1 := by rw [f1, <- l1, List.take_left' rfl]
 have t2 : L.drop (off + n) = d4 := by rw [f2, <- l3, List.drop_left' rfl]
 refine ⟨by rw [f2, List.length_append, l3]; omega, ?_⟩
 rw [t1, t2]
 exact LsRd.append (LsRd.append k1 k') k4
theorem Rel.wr (k : Rel Pr w0 stk s tm w G) {id b : Nat} {ob ob' : Obj} (h : s.obj id = some ob) (hb : G.bs id = [b]) {C : Array Value} {T : TypeId} {fz : Nat × Nat}
  (ho : Ob (wr w b C T fz) G id ob') : Rel Pr w0 stk (s.upd id ob') tm (wr w b C T fz) G :=
 k.turn h (fun c hc => wr_ne (by rintro rfl; exact hc (by rw [hb]; simp))) wr_size rfl rfl rfl ho
theorem Rel.wr_I (k : Rel Pr w0 stk s tm w G) {id b : Nat} {ob : Obj} (h : s.obj id = some ob) (hb : G.bs id = [b]) {C : Array Value} {T : TypeId} {fz : Nat × Nat} :
  ∀ c, G.I c -> (Vm.wr w b C T fz).heap[c]? = w.heap[c]? := fun c hc => wr_ne (by rintro rfl; exact (k.sep id ob c h (by rw [hb]; simp)).2.1 hc)
theorem ArRd.set {α : Type} {R : α -> List Value -> Prop} {sz : Nat} (hl : ∀ x cs, R x cs -> cs.length = sz) : ∀ {xs : List α} {cs ds : List Value} {i : Nat} {x : α}, ArRd R xs cs -> i < xs.length -> R x ds ->
  ArRd R (xs.set i x) (cs.take (i * sz) ++ ds ++ cs.drop (i * sz + sz))
 | y :: xs, _, ds, 0, x, ⟨c1, c2, e, r, k⟩, _, hx => by
  have := hl _ _ r
  refine ⟨ds, c2, ?_, hx, k⟩
  rw [e, Nat.zero_mul, Nat.zero_add, List.take_zero, List.nil_append, List.drop_left' this]
 | y :: xs, _, ds, i + 1, x, ⟨c1, c2, e, r, k⟩, hi, hx => by
  have h1 := hl _ _ r
  have ih := ArRd.set hl (xs := xs) (i := i) k (by simpa using hi) hx
  refine ⟨c1, _, ?_, r, ih⟩
  rw [e, Nat.succ_mul]
  have e1 : (c1 ++ c2).take (i * sz + sz) = c1 ++ c2.take (i * sz) := by
   rw [List.take_append, List.take_of_length_le (by omega)]; congr 2; omega
  have e2 : (c1 ++ c2).drop (i * sz + sz + sz) = c2.drop (i * sz + sz) := by
   rw [List.drop_append, List.drop_of_length_le (by omega), List.nil_append]; congr 1; omega
  rw [e1, e2]
  simp [List.append_assoc]
 | [], _, _, _, _, _, hi, _ => by simp at hi
theorem w8q {I I' : Nat -> Prop} (hI : ∀ b, I b -> I' b) {D : (u : Ty) -> Option u.den} {n : Nat} : ∀ {p : List (Nat × Nat)} {t : Ty} {x y : t.den} {cs : List Value},
  y69 p t x (fun u' _ => if u'.sz = n then D u' else none) = some y -> Rd w I t x cs ->
  ∃ k u z, zc7 t p = some (k, u) /\ u.sz = n /\ D u = some z /\ k + n <= cs.length /\ ∀ ds, Rd w I' u z ds -> Rd w I' t y (cs.take k ++ ds ++ cs.drop (k + n)) := by
 intro p
 induction p with
 | nil =>
  intro t x y cs h k
  simp only [y69] at h
  split at h
  ·rename_i hz
   refine ⟨0, t, y, rfl, hz, h, by rw [k.length]; omega, fun ds hd => ?_⟩
   have : cs.length = n := by rw [k.length, hz]
   simp [List.drop_of_length_le, this, hd]
  ·cases h
 | cons q p ih =>
  obtain ⟨m, i⟩ := q
  intro t
  -- the field
  have fld : ∀ {t : Ty} {m i : Nat} {x y : t.den} {cs : List Value}, z8b t x m i (fun t' x' => y69 p t' x' fun u' _ => if u'.sz = n then D u' else none) = some y -> Rd w I t x cs ->
    ∃ j v k u z, z4e t m i = some (j, v) /\ zc7 v p = some (k, u) /\ u.sz = n /\ D u = some z /\ j + k + n <= cs.length /\ ∀ ds, Rd w I' u z ds -> Rd w I' t y (cs.take (j + k) ++ ds ++ cs.drop (j + k + n)) := by
   intro t
   have base : ∀ {t : Ty} {x y : t.den} {cs : List Value}, y69 p t x (fun u' _ => if u'.sz = n then D u' else none) = some y -> Rd w I t x cs ->
     ∃ j v k u z, some (0, t) = some (j, v) /\ zc7 v p = some (k, u) /\ u.sz = n /\ D u = some z /\ j + k + n <= cs.length /\ ∀ ds, Rd w I' u z ds -> Rd w I' t y (cs.take (j + k) ++ ds ++ cs.drop (j + k + n)) := by
    intro t x y cs h k
    obtain ⟨k', u, z, h1, h2, h3, h4, h5⟩ := ih h k
    exact ⟨0, t, k', u, z, rfl, h1, h2, h3, by omega, fun ds hd => by simpa using h5 ds hd⟩
   induction t with
   | pair a b iha ihb =>
    intro m i x y cs h k
    match m, i, h with
    | m + 2, 0, h =>
     simp only [z8b, Option.map_eq_some_iff] at h
     obtain ⟨y', hy, rfl⟩ := h
     obtain ⟨c1, c2, rfl, r1, r2⟩ := k
     obtain ⟨k', u, z, h1, h2, h3, h4, h5⟩ := ih hy r1
     refine ⟨0, a, k', u, z, rfl, h1, h2, h3, by simp; omega, fun ds hd => ⟨_, c2, ?_, h5 ds hd, r2.mono (fun _ _ => rfl) hI⟩⟩
     rw [Nat.zero_add, List.take_append_of_le_length (by omega), List.drop_append_of_le_length (by omega)]
     simp [List.append_assoc]
    | m + 2, i + 1, h =>
     simp only [z8b, Option.map_eq_some_iff] at h
     obtain ⟨y', hy, rfl⟩ := h
     obtain ⟨c1, c2, rfl, r1, r2⟩ := k
     obtain ⟨j, v, k', u, z, h0, h1, h2, h3, h4, h5⟩ := ihb hy r2
     have l1 := r1.length
     refine ⟨a.sz + j, v, k', u, z, by simp [z4e, h0], h1, h2, h3, by simp; omega, fun ds hd => ⟨c1, _, ?_, r1.mono (fun _ _ => rfl) hI, h5 ds hd⟩⟩
     rw [List.take_append, List.take_of_length_le (show c1.length <= _ by omega), List.drop_append, List.drop_of_length_le (show c1.length <= _ by omega), List.nil_append]
     rw [show a.sz + j + k' - c1.length = j + k' by omega, show a.sz + j + k' + n - c1.length = j + k' + n by omega]
     simp [List.append_assoc]
    | 1, 0, h =>
     simp only [z8b] at h
     exact base h k
    | 0, _, h => simp [z8b] at h
    | 1, _ + 1, h => simp [z8b] at h
   | _ =>
    intro m i x y cs h k
    match m, i, h with
    | 1, 0, h => exact base h k
    | 0, _, h => simp [z8b] at h
    | 1, _ + 1, h => simp [z8b] at h
    | _ + 2, _, h => simp [z8b] at h
  intro x y cs h k
  simp only [y69] at h
  obtain ⟨j, v, k', u, z, h0, h1, h2, h3, h4, h5⟩ := fld h k
  refine ⟨j + k', u, z, ?_, h2, h3, h4, h5⟩
  simp [zc7, h0, h1]
end
end Vm
/- Matrices: what a write to a row leaves. -/
namespace Vm
open Go
theorem Gh.at_self {G : Gh} {id : Nat} {v : Value} {bs : List Nat} (h : G.h id = some v) (i : Nat) : (G.at id v bs).h i = G.h i := by
 unfold Gh.at
 simp only
 split
 ·rename_i e; rw [e, h]
 ·rfl
theorem Rel.remake {P : Nat -> Prop} {w0 : St} {w w' : World} {stk : List (Array Value)} {s : MS} {tm : Array Value} {G : Gh} (k : Rel P w0 stk s tm w G) {id : Nat} {o o' : Obj} {hv : Value} {bs : List Nat}
  (h : s.obj id = some o) (hh : G.h id = some hv) (hk : ∀ b, b ∉ G.bs id -> w'.heap[b]? = w.heap[b]?) (hz : w'.heap.size = w.heap.size) (hos : w'.os = w.os) (htape : w'.tape = w.tape) (hout : w'.output = w.output)
  (hs : ∀ b, b ∈ bs -> b ∈ G.bs id \/ (¬ P b /\ ¬ G.I b /\ b < w.heap.size /\ ∀ id' o1, s.obj id' = some o1 -> b ∉ G.bs id')) (ho : Ob w' (G.at id hv bs) id o') :
  Rel P w0 stk (s.upd id o') tm w' (G.at id hv bs) := by
 have hP : Keep P w w' := ⟨hos, htape, hout, Nat.le_of_eq hz.symm, fun b hb => hk b fun hm => (k.sep id o b h hm).1 hb⟩
 have hI : ∀ b, G.I b -> w'.heap[b]? = w.heap[b]? := fun b hb => hk b fun hm => (k.sep id o b h hm).2.1 hb
 have hbs : ∀ t, t ≠ id -> (G.at id hv bs).bs t = G.bs t := fun t e => by simp [Gh.at, e]
 have hbi : (G.at id hv bs).bs id = bs := by simp [Gh.at]
 have hsep : ∀ b, b ∈ bs -> ¬ P b /\ ¬ G.I b /\ b < w.heap.size := fun b hb => (hs b hb).elim (k.sep id o b h) fun q => ⟨q.1, q.2.1, q.2.2.1⟩
 have hdis : ∀ b, b ∈ bs -> ∀ t o1, t ≠ id -> s.obj t = some o1 -> b ∉ G.bs t := fun b hb t o1 e h1 hm => (hs b hb).elim (fun q => e (k.dis t id o1 o b h1 h hm q)) fun q => q.2.2.2 t o1 h1 hm
 exact {
   keep := k.keep.trans hP fun _ h => h
   old := k.old
   isz := fun b hb => by rw [hz]; exact k.isz b hb
   ob := fun t o1 h1 => by
     rw [zh6] at h1
     by_cases e : t = id
     · subst e; simp at h1; subst h1; exact ho
     · simp only [e, if_false] at h1
       have h2 := (k.ob t o1 h1).mono (I' := G.I) hI (fun _ h => h) fun b hb => hk b fun hm => e (k.dis t id o1 o b h1 h hb hm)
       exact Ob.congr (G := { G with I := G.I }) (G' := G.at id hv bs) rfl (Gh.at_self hh t) (hbs t e) (fun i _ => Gh.at_self hh i) h2
   sep := fun t o1 b h1 hb => by
     rw [hz]
     rw [zh6] at h1
     by_cases e : t = id
     · subst e; rw [hbi] at hb; exact hsep b hb
     · simp only [e, if_false] at h1; rw [hbs t e] at hb; exact k.sep t o1 b h1 hb
   dis := fun t t' o1 o2 b h1 h2 hb hb' => by
     rw [zh6] at h1 h2
     by_cases e : t = id <;> by_cases e' : t' = id
     · exact e.trans e'.symm
     · simp only [e', if_false] at h2; subst e; rw [hbi] at hb; rw [hbs t' e'] at hb'; exact absurd hb' (hdis b hb t' o2 e' h2)
     · simp only [e, if_false] at h1; subst e'; rw [hbi] at hb'; rw [hbs t e] at hb; exact absurd hb (hdis b hb' t o1 e h1)
     · simp only [e, e', if_false] at h1 h2; rw [hbs t e] at hb; rw [hbs t' e'] at hb'; exact k.dis t t' o1 o2 b h1 h2 hb hb'
   slots := fun t v hv' => ((k.slots.mono hI (fun _ h => h)) t v hv').congr fun i _ => Gh.at_self hh i
   saved := SavedRd.imp (G := { G with I := G.I }) (G' := G.at id hv bs) rfl (fun m hm t v _ i _ => Gh.at_self hh i) (k.saved.mono hI fun _ h => h)
   pin := fun i hi => (k.pin i hi).ext (Gh.at_self hh) }
section
variable {Pr : Nat -> Prop} {w0 : St} {w : World} {stk : List (Array Value)} {s : MS} {G : Gh} {tm : Array Value}
theorem w9p {id : Nat} {v : Value} {bs : List Nat} : (G.at id v bs).bs id = bs := by simp [Gh.at]
theorem w89 {α : Type} {l : List (List α)} {i : Nat} (h : i < l.length) : l[i]? = some (l.getD i []) := by rw [List.getD_eq_getElem?_getD, List.getElem?_eq_getElem h]; rfl
theorem Rel.mat_put (k : Rel Pr w0 stk s tm w G) {id : Nat} {t : Ty} {xs : List (List t.den)} {sw : Option (Nat × Nat)} (hob : s.obj id = some (.mat t xs sw)) {o : Value} {hs : Array Value} {i j b n c : Nat} (h : G.h id = some (.tuple #[o, .agg hs]))
  (h2 : hs[i]? = some (.slice (some ⟨b, 0, none⟩) n c)) (hj : j < n) {C : Array Value} {T : TypeId} {fz : Nat × Nat} (hC : w.heap[b]? = some (.cells C T fz)) {vs : List Value} {z : t.den} (hz : Rd w G.I t z vs) :
  Rel Pr w0 stk (s.upd id (.mat t (xs.set i ((xs.getD i []).set j z)) sw)) tm (Vm.wr w b (y1u C (j * t.sz) vs) T fz) (G.at id (.tuple #[o, .agg hs]) (G.bs id)) := by
 have hvs : vs.length = t.sz := hz.length
 obtain ⟨b0, c0, C0, E0, fz0, rb, hs', k1, k2, k3, k4, k5, k6, k7, k8, k9, k10, k11, k12⟩ := yk3 (k.ob id _ hob) h h2
 have k1' := k1
 rw [h] at k1
 simp only [Option.some.injEq, Value.tuple.injEq, Array.mk.injEq, List.cons.injEq, Value.agg.injEq, and_true] at k1
 obtain ⟨rfl, rfl⟩ := k1
 have hi : i < xs.length := by rw [<- k10]; exact (Array.getElem?_eq_some_iff.1 h2).1
 have hr := k9 i _ (w89 hi)
 have hsi : hs.getD i undef = .slice (some ⟨b, 0, none⟩) n c := by rw [Array.getD_eq_getD_getElem?, h2]; rfl
 rw [hsi] at hr
 rcases hr with ⟨e, _⟩ | ⟨b1, c1, C1, E1, fz1, e, e2, e3, e4, e5, e6, e7⟩
 ·cases e
 ·simp only [Value.slice.injEq, Option.some.injEq, Addr.mk.injEq, and_true] at e
  obtain ⟨rfl, rfl, rfl⟩ := e
  rw [hC] at e4
  cases e4
  have hbi : b ∈ rb i := by rw [e2]; simp
  have hbid := k7 i hi b hbi
  have hbw : b < w.heap.size := (Array.getElem?_eq_some_iff.1 hC).1
  have hbI : ∀ q, G.I q -> (Vm.wr w b (y1u C (j * t.sz) vs) T fz).heap[q]? = w.heap[q]? := fun q hq => Vm.wr_ne fun e => (k.sep id _ b hob hbid.1).2.1 (e ▸ hq)
  have hlen : (xs.set i ((xs.getD i []).set j z)).length = xs.length := List.length_set ..
  have hjc : j * t.sz + vs.length <= C.size := by
   have : (j + 1) * t.sz <= c * t.sz := Nat.mul_le_mul_right _ (by omega)
   rw [Nat.add_mul, Nat.one_mul] at this
   omega
  refine k.remake hob h (fun q hq => wr_ne fun e => hq (e ▸ hbid.1)) wr_size rfl rfl rfl (fun q hq => .inl hq) ?_
  refine .inr ⟨b0, c0, C0, E0, fz0, rb, hs, by rw [hlen]; exact (Gh.at_self h id).trans k1', by rw [hlen]; exact k2, k3, (wr_ne fun e => hbid.2 e.symm).trans k4, k5, by simpa [Gh.at] using k6, fun q hq b' hb' => by
    rw [hlen] at hq
    rw [w9p]; exact k7 q hq b' hb', fun p q hp hq => k8 p q (by rw [hlen] at hp; exact hp) (by rw [hlen] at hq; exact hq), fun q y hy => ?_, by rw [hlen]; exact k10, fun q hq => k11 q (by rw [hlen] at hq; exact hq), fun p q e => by rw [hlen]; exact k12 p q e⟩
  show RowOb _ G.I t y _ _
  by_cases e : q = i
  ·subst e
   rw [List.getElem?_set_self hi, Option.some.injEq] at hy
   subst hy
   rw [hsi]
   refine .inr ⟨b, c, y1u C (j * t.sz) vs, T, fz, by rw [List.length_set], e2, by rw [List.length_set]; exact e3, y0j hbw, z78 (z3e ..) e5, by rw [z3e]; exact e6, fun p y hy => ?_⟩
   rw [zt7 hjc]
   by_cases ep : p = j
   ·subst ep
    rw [List.getElem?_set_self hj, Option.some.injEq] at hy
    subst hy
    have := wk0 C.toList vs (p * t.sz) t.sz 0 (by omega) (by rw [Array.length_toList]; omega)
    simp only [Nat.add_zero, Nat.zero_add, List.take_zero, List.nil_append] at this
    rw [this, hvs, List.drop_of_length_le (by rw [List.length_take]; omega), List.append_nil]
    exact hz.mono hbI fun _ h => h
   ·rw [List.getElem?_set_ne (fun e => ep e.symm)] at hy
    have : p * t.sz + t.sz <= j * t.sz \/ j * t.sz + t.sz <= p * t.sz := by
     rw [<- Nat.succ_mul, <- Nat.succ_mul]
     rcases Nat.lt_or_gt_of_ne ep with hlt | hgt
     ·exact .inl (Nat.mul_le_mul_right _ (by omega))
     ·exact .inr (Nat.mul_le_mul_right _ (by omega))
    rw [wj9 _ _ _ _ _ (by rw [Array.length_toList]; exact hjc) (by rw [hvs]; omega)]
    exact (e7 p y hy).mono hbI fun _ h => h
  ·rw [List.getElem?_set_ne (fun e' => e e'.symm)] at hy
   have hq : q < xs.length := (List.getElem?_eq_some_iff.1 hy).1
   exact (k9 q y hy).mono hbI (fun _ h => h) fun b' hb' => wr_ne fun e' => k8 i q hi hq (fun e'' => e e''.symm) b hbi (e' ▸ hb')
theorem LRd.rehead {id : Nat} {o R R' : Value} {bs : List Nat} (h : G.h id = some (.tuple #[o, R])) {v : LV} {cs : List Value} (hr : v.hasR id = false) (k : LRd w G.I G.h v cs) : LRd w G.I (G.at id (.tuple #[o, R']) bs).h v cs := by
 by_cases hv : v.has id = true
 ·have hid : (G.at id (.tuple #[o, R']) bs).h id = some (.tuple #[o, R']) := by simp [Gh.at]
  cases v with
  | own i => obtain ⟨A, n, c, h1, h2⟩ := k; have e : i = id := (by simpa [LV.has] using hv); subst e; rw [h] at h1; cases h1
  | pre i m => obtain ⟨A, n, c, h1, h2⟩ := k; have e : i = id := (by simpa [LV.has] using hv); subst e; rw [h] at h1; cases h1
  | vw i t lo m => obtain ⟨A, n, c, h1, h2⟩ := k; have e : i = id := (by simpa [LV.has] using hv); subst e; rw [h] at h1; cases h1
  | pbox i q => obtain ⟨b, h1, h2⟩ := k; have e : i = id := (by simpa [LV.has] using hv); subst e; rw [h] at h1; cases h1
  | pboxA i q u n j => obtain ⟨_, _, b, h1, h2⟩ := k; have e : i = id := (by simpa [LV.has] using hv); subst e; rw [h] at h1; cases h1
  | pbuf i t j fp => obtain ⟨_, b, n, c, q, u, h1, h2⟩ := k; have e : i = id := (by simpa [LV.has] using hv); subst e; rw [h] at h1; cases h1
  | clos i => obtain ⟨f, c, h1, h2⟩ := k; have e : i = id := (by simpa [LV.has] using hv); subst e; rw [h] at h1; cases h1
  | grd i =>
   obtain ⟨A, n, c, R0, h1, h2⟩ := k
   have e : i = id := by simpa [LV.has] using hv
   subst e
   rw [h] at h1
   simp only [Option.some.injEq, Value.tuple.injEq, Array.mk.injEq, List.cons.injEq, and_true] at h1
   exact ⟨A, n, c, R', by rw [hid, h1.1], h2⟩
  | gpre i m =>
   obtain ⟨A, n, c, R0, h1, h2⟩ := k
   have e : i = id := by simpa [LV.has] using hv
   subst e
   rw [h] at h1
   simp only [Option.some.injEq, Value.tuple.injEq, Array.mk.injEq, List.cons.injEq, and_true] at h1
   exact ⟨A, n, c, R', by rw [hid, h1.1], h2⟩
  | pgrd i t j =>
   obtain ⟨h0, b, n, c, R0, h1, h2⟩ := k
   have e : i = id := by simpa [LV.has] using hv
   subst e
   rw [h] at h1
   simp only [Option.some.injEq, Value.tuple.injEq, Array.mk.injEq, List.cons.injEq, and_true] at h1
   exact ⟨h0, b, n, c, R', by rw [hid, h1.1], h2⟩
  | row i t j => rw [show LV.hasR id (.row i t j) = LV.has id (.row i t j) from rfl, hv] at hr; cases hr
  | prow i t j q => rw [show LV.hasR id (.prow i t j q) = LV.has id (.prow i t j q) from rfl, hv] at hr; cases hr
  | val t x => cases hv
  | nil => cases hv
  | nilp => cases hv
  | pimm t x => cases hv
  | func f => cases hv
 ·exact k.congr fun i hi => by
   have : i ≠ id := by rintro rfl; exact hv hi
   simp [Gh.at, this]
theorem LsRd.rehead {id : Nat} {o R R' : Value} {bs : List Nat} (h : G.h id = some (.tuple #[o, R])) {l : List LV} {cs : List Value} (hr : l.any (LV.hasR id) = false) (k : LsRd w G.I G.h l cs) : LsRd w G.I (G.at id (.tuple #[o, R']) bs).h l cs :=
 ArRd.imp (fun v _ hv k => k.rehead h (by
   rw [List.any_eq_false] at hr
   simpa using hr v hv)) k
theorem ARd.rehead {id : Nat} {o R R' : Value} {bs : List Nat} (h : G.h id = some (.tuple #[o, R])) {v : AV} {x : Value} (hr : v.hasR id = false) (k : ARd w G.I G.h v x) : ARd w G.I (G.at id (.tuple #[o, R']) bs).h v x := by
 cases v with
 | undef => trivial
 | one v => exact ⟨k.1, k.2.rehead h hr⟩
 | agg l => obtain ⟨cs, e', k⟩ := k; exact ⟨cs, e', k.rehead h hr⟩
 | tup l =>
  obtain ⟨vs, e', hl, k⟩ := k
  refine ⟨vs, e', hl, fun i p y hp hy => ?_⟩
  have := k i p y hp hy
  have hm : p.2.any (LV.hasR id) = false := by
   have hr : (l.any fun p => p.2.any (LV.hasR id)) = false := hr
   rw [List.any_eq_false] at hr
   simpa using hr p (List.mem_of_getElem? hp)
  cases hb : p.1 <;> simp only [hb, if_true, if_false, Bool.false_eq_true] at this ⊢
  ·exact ⟨this.1, this.2.rehead h hm⟩
  ·obtain ⟨cs, e, k⟩ := this; exact ⟨cs, e, k.rehead h hm⟩
theorem Ob.rehead {id t : Nat} {o R R' : Value} {bs : List Nat} (h : G.h id = some (.tuple #[o, R])) (ht : t ≠ id) {ob : Obj} (hr : ob.hasR id = false) (k : Ob w G t ob) : Ob w (G.at id (.tuple #[o, R']) bs) t ob := by
 have h1 : (G.at id (.tuple #[o, R']) bs).h t = G.h t := by simp [Gh.at, ht]
 have h2 : (G.at id (.tuple #[o, R']) bs).bs t = G.bs t := by simp [Gh.at, ht]
 cases ob with
 | box l =>
  obtain ⟨b, C, E, fz, k1, k2, k3, k4, k5⟩ := k
  exact ⟨b, C, E, fz, h1.trans k1, h2.trans k2, k3, k4, k5.rehead h hr⟩
 | clos f l =>
  obtain ⟨cs, k1, k2, k3, k4⟩ := k
  refine ⟨cs, h1.trans k1, h2.trans k2, k3, fun i v x hv hx => ⟨(k4 i v x hv hx).1, (k4 i v x hv hx).2.rehead h ?_⟩⟩
  have hr : l.any (LV.hasR id) = false := hr
  rw [List.any_eq_false] at hr
  simpa using hr v (List.mem_of_getElem? hv)
 | buf u ys => exact Ob.congr (G := G) (G' := G.at id (.tuple #[o, R']) bs) rfl h1 h2 (fun i hi => by cases hi) k
 | grid u ys hole => exact Ob.congr (G := G) (G' := G.at id (.tuple #[o, R']) bs) rfl h1 h2 (fun i hi => by cases hi) k
 | mat u ys sw => exact Ob.congr (G := G) (G' := G.at id (.tuple #[o, R']) bs) rfl h1 h2 (fun i hi => by cases hi) k
theorem w4o (id t : Nat) (l : List (Nat × AV)) : look t (ys5 id l) = (look t l).map fun v => if v.hasR id then .undef else v := by
 unfold ys5; exact z59 (fun v : AV => if v.hasR id then .undef else v) t l
theorem wg5 {s : MS} {id t : Nat} {o : Obj} (h : (s.killR id).obj t = some o) : s.obj t = some o /\ o.hasR id = false := by
 have hk : look t (s.killR id).objs = (look t s.objs).map fun o => match o with | some o => if o.hasR id then none else some o | none => none := by
  unfold MS.killR wt2; exact z59 (fun o : Option Obj => match o with | some o => if o.hasR id then none else some o | none => none) t s.objs
 unfold MS.obj at h
 rw [hk] at h
 unfold MS.obj
 cases hl : look t s.objs with
 | none => simp [hl] at h
 | some x => cases x with
  | none => simp [hl] at h
  | some o' =>
   simp only [hl, Option.map_some, Option.join_some] at h
   cases hh : o'.hasR id
   ·simp [hh] at h; subst h; exact ⟨rfl, hh⟩
   ·simp [hh] at h
theorem SlotsRd.rehead {id : Nat} {o R R' : Value} {bs : List Nat} (h : G.h id = some (.tuple #[o, R])) {l : List (Nat × AV)} (k : SlotsRd w G l tm) : SlotsRd w (G.at id (.tuple #[o, R']) bs) (ys5 id l) tm := by
 intro t v hv
 rw [w4o] at hv
 cases hl : look t l with
 | none => simp [hl] at hv
 | some u =>
  simp only [hl, Option.map_some, Option.some.injEq] at hv
  subst hv
  split
  ·trivial
  ·rename_i hn
   exact (k t u hl).rehead h (by simpa using hn)
theorem SavedRd.rehead {id : Nat} {o R R' : Value} {bs : List Nat} (h : G.h id = some (.tuple #[o, R])) : ∀ {l : List (List (Nat × AV))} {tms : List (Array Value)}, SavedRd w G l tms -> SavedRd w (G.at id (.tuple #[o, R']) bs) (l.map (ys5 id)) tms
 | [], [], _ => trivial
 | _ :: _, _ :: _, ⟨h1, k⟩ => ⟨h1.rehead h, SavedRd.rehead h k⟩
 | [], _ :: _, h => h.elim
 | _ :: _, [], h => h.elim
theorem Rel.rehead {w' : World} (k : Rel Pr w0 stk s tm w G) {id : Nat} {ob ob' : Obj} {o R R' : Value} (hob : s.obj id = some ob) (h : G.h id = some (.tuple #[o, R])) (hk : ∀ b, b ∉ G.bs id -> w'.heap[b]? = w.heap[b]?) (hz : w'.heap.size = w.heap.size)
  (hos : w'.os = w.os) (htape : w'.tape = w.tape) (hout : w'.output = w.output) (ho : Ob w' (G.at id (.tuple #[o, R']) (G.bs id)) id ob') :
  Rel Pr w0 stk (((s.killR id).upd id ob').unpin id) tm w' (G.at id (.tuple #[o, R']) (G.bs id)) := by
 have hP : Keep Pr w w' := ⟨hos, htape, hout, Nat.le_of_eq hz.symm, fun b hb => hk b fun hm => (k.sep id ob b hob hm).1 hb⟩
 have hI : ∀ b, G.I b -> w'.heap[b]? = w.heap[b]? := fun b hb => hk b fun hm => (k.sep id ob b hob hm).2.1 hb
 have hbs : ∀ t, (G.at id (.tuple #[o, R']) (G.bs id)).bs t = G.bs t := fun t => by
  by_cases e : t = id
  ·subst e; simp [Gh.at]
  ·simp [Gh.at, e]
 have hobj : ∀ t o1, (((s.killR id).upd id ob').unpin id).obj t = some o1 -> (t = id /\ o1 = ob') \/ (t ≠ id /\ s.obj t = some o1 /\ o1.hasR id = false) := by
  intro t o1 h1
  replace h1 : ((s.killR id).upd id ob').obj t = some o1 := h1
  rw [zh6] at h1
  by_cases e : t = id
  ·simp only [e, if_true, Option.some.injEq] at h1; exact .inl ⟨e, h1.symm⟩
  ·simp only [e, if_false] at h1; exact .inr ⟨e, wg5 h1⟩
 have hold : ∀ t o1, (((s.killR id).upd id ob').unpin id).obj t = some o1 -> ∃ o2, s.obj t = some o2 := fun t o1 h1 => (hobj t o1 h1).elim (fun q => ⟨ob, q.1 ▸ hob⟩) fun q => ⟨o1, q.2.1⟩
 exact {
   keep := k.keep.trans hP fun _ h => h
   old := k.old
   isz := fun b hb => by rw [hz]; exact k.isz b hb
   ob := fun t o1 h1 => by
     rcases hobj t o1 h1 with ⟨rfl, rfl⟩ | ⟨e, h2, h3⟩
     · exact ho
     · have k1 := (k.ob t o1 h2).mono (I' := G.I) hI (fun _ h => h) fun b hb => hk b fun hm => e (k.dis t id o1 ob b h2 hob hb hm)
       exact Ob.rehead (G := { G with I := G.I }) h e h3 k1
   sep := fun t o1 b h1 hb => by
     rw [hz]
     rw [hbs] at hb
     obtain ⟨o2, h2⟩ := hold t o1 h1
     exact k.sep t o2 b h2 hb
   dis := fun t t' o1 o2 b h1 h2 hb hb' => by
     rw [hbs] at hb hb'
     obtain ⟨o3, h3⟩ := hold t o1 h1
     obtain ⟨o4, h4⟩ := hold t' o2 h2
     exact k.dis t t' o3 o4 b h3 h4 hb hb'
   slots := SlotsRd.rehead (G := { G with I := G.I }) h (k.slots.mono hI fun _ h => h)
   saved := SavedRd.rehead (G := { G with I := G.I }) h (k.saved.mono hI fun _ h => h)
   pin := fun i hi => by
     have hi : i ∈ s.pin.filter (fun i => i != id && i != nnc id) := hi
     rw [List.mem_filter, Bool.and_eq_true, bne_iff_ne, bne_iff_ne] at hi
     exact (k.pin i hi.1).off (fun j hj => by simp [Gh.at, hj]) hi.2.1 hi.2.2 }
end
end Vm
/- A store: all its forms. -/
namespace Vm
open Go
section
variable {ρ : Type} {P : Program} {E : Env} {Pr : Nat -> Prop} {w0 : St} {w : World} {stk : List (Array Value)} {s : MS} {a : Act} {G : Gh} {o : Oper} {Q : Exit -> Act -> World -> Prop} {K : AV -> MS -> Option ρ} {r : ρ} {tm : Array Value}
theorem z5v {v : Value} : v.cells.toList.length = v.cells.size := by simp
theorem zi1 {x' : World} (hr : (execOp a.eval o).run P w = .ok .skip x') {s' : MS} {G' : Gh} (k : Rel Pr w0 stk s' a.tmps x' G') (h : K .undef s' = some r) :
  o.wp P a w (zb2 Pr w0 stk o a K r) Q := wr5 hr ⟨.undef, s', undef, G', rfl, k, trivial, h⟩
theorem yq3 {l : List LV} : ∀ {s : MS} {id : Nat} {t : Ty} {xs : List t.den} {ob : Obj}, s.obj id = some (.buf t xs) -> (s.solids l).obj id = some ob -> ob = .buf t xs := by
 unfold MS.solids
 have one : ∀ {s : MS} {id i : Nat} {t : Ty} {xs : List t.den} {ob : Obj}, s.obj id = some (.buf t xs) -> (s.solid i).obj id = some ob -> ob = .buf t xs := by
  intro s id i t xs ob h h'
  by_cases e : id = i
  ·subst e
   unfold MS.solid at h'
   simp only [h, Option.bind_some, Obj.rows] at h'
   exact absurd rfl (z0w h').1
  ·rw [zt4 h rfl e] at h'; cases h'; rfl
 have many : ∀ (m : List Nat) {s : MS} {id : Nat} {t : Ty} {xs : List t.den}, s.obj id = some (.buf t xs) -> (m.foldl MS.solid s).obj id = none \/ (m.foldl MS.solid s).obj id = some (.buf t xs) := by
  intro m
  induction m with
  | nil => intro s id t xs h; exact .inr h
  | cons i m ih =>
   intro s id t xs h
   cases hh : (s.solid i).obj id with
   | some ob => exact ih (by rw [hh, one h hh])
   | none =>
    left
    have gone : ∀ (m : List Nat) {s : MS}, s.obj id = none -> (m.foldl MS.solid s).obj id = none := by
     intro m
     induction m with
     | nil => intro s h; exact h
     | cons j m ih' =>
      intro s h
      refine ih' ?_
      unfold MS.solid
      split
      ·rename_i t' xs' hj
       rw [z8r]
       split
       ·rfl
       ·have : (look id (s.objs.map fun p => (p.1, p.2.map (Obj.solid j t' xs')))).join = none := by
         rw [z59 (fun p : Option Obj => p.map (Obj.solid j t' xs'))]
         unfold MS.obj at h
         cases hl : look id s.objs with
         | none => rfl
         | some q => cases q with
          | none => rfl
          | some q => rw [hl] at h; cases h
        show (Option.join _).bind _ = none
        rw [this]; rfl
      ·rw [z8r, h]; split <;> rfl
    exact gone m hh
 induction l with
 | nil => intro s id t xs ob h h'; rw [show s.obj id = some ob from h'] at h; cases h; rfl
 | cons v l ih =>
  intro s id t xs ob h h'
  rcases many v.refs h with hn | hs
  ·have gone : ∀ (l : List LV) {s : MS}, s.obj id = none -> (l.foldl (fun s v => v.refs.foldl MS.solid s) s).obj id = none := by
    intro l
    induction l with
    | nil => intro s h; exact h
    | cons v l ih' =>
     intro s h
     refine ih' ?_
     rcases w53 v with e | ⟨i, e⟩
     ·show (v.refs.foldl MS.solid s).obj id = none
      rw [e]; exact h
     ·show (v.refs.foldl MS.solid s).obj id = none
      rw [e]
      show (s.solid i).obj id = none
      unfold MS.solid
      split
      ·rename_i t' xs' hj
       rw [z8r]
       split
       ·rfl
       ·have : (look id (s.objs.map fun p => (p.1, p.2.map (Obj.solid i t' xs')))).join = none := by
         rw [z59 (fun p : Option Obj => p.map (Obj.solid i t' xs'))]
         unfold MS.obj at h
         cases hl : look id s.objs with
         | none => rfl
         | some q => cases q with
          | none => rfl
          | some q => rw [hl] at h; cases h
        show (Option.join _).bind _ = none
        rw [this]; rfl
      ·rw [z8r, h]; split <;> rfl
   exact absurd (show (List.foldl (fun s v => v.refs.foldl MS.solid s) (v.refs.foldl MS.solid s) l).obj id = some ob from h') (by rw [gone l hn]; simp)
  ·exact ih hs h'
theorem yq4 {l : List LV} : ∀ {s : MS} {id : Nat} {t : Ty} {xs : List (List t.den)} {ob : Obj}, s.obj id = some (.mat t xs none) -> (s.solids l).obj id = some ob -> ob = .mat t xs none := by
 unfold MS.solids
 have one : ∀ {s : MS} {id i : Nat} {t : Ty} {xs : List (List t.den)} {ob : Obj}, s.obj id = some (.mat t xs none) -> (s.solid i).obj id = some ob -> ob = .mat t xs none := by
  intro s id i t xs ob h h'
  by_cases e : id = i
  ·subst e
   unfold MS.solid at h'
   simp only [h, Option.bind_some, Obj.rows] at h'
   exact absurd rfl (z0w h').1
  ·rw [zt4 h rfl e] at h'; cases h'; rfl
 have many : ∀ (m : List Nat) {s : MS} {id : Nat} {t : Ty} {xs : List (List t.den)}, s.obj id = some (.mat t xs none) -> (m.foldl MS.solid s).obj id = none \/ (m.foldl MS.solid s).obj id = some (.mat t xs none) := by
  intro m
  induction m with
  | nil => intro s id t xs h; exact .inr h
  | cons i m ih =>
   intro s id t xs h
   cases hh : (s.solid i).obj id with
   | some ob => exact ih (by rw [hh, one h hh])
   | none =>
    left
    have gone : ∀ (m : List Nat) {s : MS}, s.obj id = none -> (m.foldl MS.solid s).obj id = none := by
     intro m
     induction m with
     | nil => intro s h; exact h
     | cons j m ih' =>
      intro s h
      refine ih' ?_
      unfold MS.solid
      split
      ·rename_i t' xs' hj
       rw [z8r]
       split
       ·rfl
       ·have : (look id (s.objs.map fun p => (p.1, p.2.map (Obj.solid j t' xs')))).join = none := by
         rw [z59 (fun p : Option Obj => p.map (Obj.solid j t' xs'))]
         unfold MS.obj at h
         cases hl : look id s.objs with
         | none => rfl
         | some q => cases q with
          | none => rfl
          | some q => rw [hl] at h; cases h
        show (Option.join _).bind _ = none
        rw [this]; rfl
      ·rw [z8r, h]; split <;> rfl
    exact gone m hh
 induction l with
 | nil => intro s id t xs ob h h'; rw [show s.obj id = some ob from h'] at h; cases h; rfl
 | cons v l ih =>
  intro s id t xs ob h h'
  rcases many v.refs h with hn | hs
  ·have gone : ∀ (l : List LV) {s : MS}, s.obj id = none -> (l.foldl (fun s v => v.refs.foldl MS.solid s) s).obj id = none := by
    intro l
    induction l with
    | nil => intro s h; exact h
    | cons v l ih' =>
     intro s h
     refine ih' ?_
     rcases w53 v with e | ⟨i, e⟩
     ·show (v.refs.foldl MS.solid s).obj id = none
      rw [e]; exact h
     ·show (v.refs.foldl MS.solid s).obj id = none
      rw [e]
      show (s.solid i).obj id = none
      unfold MS.solid
      split
      ·rename_i t' xs' hj
       rw [z8r]
       split
       ·rfl
       ·have : (look id (s.objs.map fun p => (p.1, p.2.map (Obj.solid i t' xs')))).join = none := by
         rw [z59 (fun p : Option Obj => p.map (Obj.solid i t' xs'))]
         unfold MS.obj at h
         cases hl : look id s.objs with
         | none => rfl
         | some q => cases q with
          | none => rfl
          | some q => rw [hl] at h; cases h
        show (Option.join _).bind _ = none
        rw [this]; rfl
      ·rw [z8r, h]; split <;> rfl
   exact absurd (show (List.foldl (fun s v => v.refs.foldl MS.solid s) (v.refs.foldl MS.solid s) l).obj id = some ob from h') (by rw [gone l hn]; simp)
  ·exact ih hs h'
theorem w5d (hE : EOk P E) (k : Rel Pr w0 stk s a.tmps w G) {t : TypeId} {x y : Operand} (ho : o.op = .store t x y)
  (h : (match s.ev x, E.ty? t, (s.ev y).leaves? with
  | .one p, some u, some l => match w2o s u p l with
    | some s => K .undef s
    | none => none
  | _, _, _ => none) = some r) : o.wp P a w (zb2 Pr w0 stk o a K r) Q := by
 split at h
 ·rename_i p u new hp hu hn
  split at h
  ·rename_i s' hs
   have ky := (k.ev y).leaves hn
   have kx := (hp ▸ k.ev x : ARd w G.I G.h (.one p) (a.eval x))
   obtain ⟨_, kx⟩ := kx
   unfold w2o at hs
   split at hs
   ·rename_i hc
    have hsz : (a.eval y).cells.size = u.sz := by rw [<- z5v, ky.length, hc]
    have h1 := ky.cell1
    cases p with
    | pbox id off =>
     obtain ⟨b, hb, hx⟩ := kx
     simp only [List.cons.injEq, and_true] at hx
     simp only at hs
     split at hs
     ·rename_i l hl
      simp only [Option.map_eq_some_iff] at hs
      obtain ⟨l', hl', rfl⟩ := hs
      obtain ⟨b', C, T, fz, g1, g2, g3, g4, g5⟩ := k.ob id _ hl
      rw [hb] at g1
      cases g1
      obtain ⟨hz, hrd⟩ := wi9 hl' g5 ky
      simp only [Array.length_toList] at hz
      have hlen : off + (a.eval y).cells.toList.length <= C.size := by rw [z5v, hsz]; exact hz
      refine zi1 (z7w ho hx (z8a hE hu g3 g4 hsz hz h1)) (k.wr (ob' := .box l') hl g2 ⟨b, y1u C off (a.eval y).cells.toList, T, fz, hb, g2, y0j (Array.getElem?_eq_some_iff.1 g3).1, z78 (z3e ..) g4, ?_⟩) h
      rw [zt7 hlen, z5v, hsz]
      exact hrd.mono (k.wr_I hl g2) fun _ h => h
     ·cases hs
    | pboxA id off v n i =>
     obtain ⟨i0, i1, b, hb, hx⟩ := kx
     simp only [List.cons.injEq, and_true] at hx
     simp only at hs
     split at hs
     ·rename_i l hl
      split at hs
      ·rename_i n' u' xs rest hd
       split at hs
       ·rename_i hq
        obtain ⟨rfl, rfl, hq⟩ := hq
        simp only [Option.bind_eq_some_iff] at hs
        obtain ⟨z, hz, l', hl', hs⟩ := hs
        split at hs
        ·rename_i ob hob
         cases hs
         obtain ⟨G', k', hI, hh, hbs⟩ := k.solids new
         obtain ⟨b', C, T, fz, g1, g2, g3, g4, g5⟩ := k.ob id _ hl
         rw [hb] at g1
         cases g1
         obtain ⟨m, _, e2, c2⟩ := za0 hd
         rw [e2] at g5
         obtain ⟨d1, d2, f1, k1, k2⟩ := LsRd.split g5
         obtain ⟨d3, d4, f2, k3, k4⟩ := k2
         have l1 := k1.length
         have l3 : d3.length = n' * u'.sz := Rd.length (t := .arr n' u') k3
         obtain ⟨ln, k3⟩ := k3
         have hlt : i.toNat < xs.length := by omega
         have hin : i.toNat * u'.sz + u'.sz <= n' * u'.sz := by
          rw [<- Nat.succ_mul]; exact Nat.mul_le_mul_right _ (by omega)
         have hC : C.size = off + (n' * u'.sz + d4.length) := by
          rw [<- Array.length_toList, f1, f2]; simp [l1, l3, c2]
         have hrx := z9s k hz ky
         have hnew : Rd w G'.I (.arr n' u') (xs.set i.toNat z) (d3.take (i.toNat * u'.sz) ++ (a.eval y).cells.toList ++ d3.drop (i.toNat * u'.sz + u'.sz)) :=
          ⟨by simpa using ln, ArRd.set (fun _ _ => Rd.length) (k3.mono fun _ _ h => Rd.mono (fun _ _ => rfl) (fun b hb => hI b (.inl hb)) h) hlt (hrx.mono (fun _ _ => rfl) hI)⟩
         rw [e2] at hl'
         have hIm : ∀ {l : List LV} {L : List Value}, LsRd w G.I G.h l L -> LsRd w G'.I G.h l L := fun h => h.mono (fun _ _ => rfl) fun b hb => hI b (.inl hb)
         obtain ⟨_, hrd⟩ := wi9 hl' (hIm g5) (LsRd.one (h := G.h) (v := .val (.arr n' u') (xs.set i.toNat z)) hnew)
         have hg3 : b < w.heap.size := (Array.getElem?_eq_some_iff.1 g3).1
         have hlen : off + i.toNat * u'.sz + (a.eval y).cells.toList.length <= C.size := by rw [z5v, hsz, <- hq]; omega
         have hrun := z8a hE hu (off := off + i.toNat * u'.sz) g3 g4 hsz (by rw [<- hq]; omega) h1
         have g2' : G'.bs id = [b] := by rw [hbs]; exact g2
         refine zi1 (z7w ho hx hrun) (k'.wr (ob' := .box l') hob g2' ⟨b, y1u C (off + i.toNat * u'.sz) (a.eval y).cells.toList, T, fz, by rw [hh]; exact hb, g2', y0j hg3, z78 (z3e ..) g4, ?_⟩) h
         rw [hh, zt7 hlen, z5v, hsz, <- hq]
         have e : C.toList.take off ++ (d3.take (i.toNat * u'.sz) ++ (a.eval y).cells.toList ++ d3.drop (i.toNat * u'.sz + u'.sz)) ++ C.toList.drop (off + n' * u'.sz) =
           C.toList.take (off + i.toNat * u'.sz) ++ (a.eval y).cells.toList ++ C.toList.drop (off + i.toNat * u'.sz + u'.sz) := by
          rw [f1, f2]
          have ho : d1.length = off := by rw [l1, c2]
          have t1 : (d1 ++ (d3 ++ d4)).take off = d1 := by rw [<- ho, List.take_left' rfl]
          have t2 : (d1 ++ (d3 ++ d4)).drop (off + n' * u'.sz) = d4 := by rw [<- ho, <- l3, <- List.append_assoc, List.drop_left' (by simp)]
          have t3 : (d1 ++ (d3 ++ d4)).take (off + i.toNat * u'.sz) = d1 ++ d3.take (i.toNat * u'.sz) := by
           rw [List.take_append, List.take_of_length_le (by omega), show off + i.toNat * u'.sz - d1.length = i.toNat * u'.sz by omega, List.take_append_of_le_length (by omega)]
          have t4 : (d1 ++ (d3 ++ d4)).drop (off + i.toNat * u'.sz + u'.sz) = d3.drop (i.toNat * u'.sz + u'.sz) ++ d4 := by
           rw [List.drop_append, List.drop_of_length_le (by omega), List.nil_append, show off + i.toNat * u'.sz + u'.sz - d1.length = i.toNat * u'.sz + u'.sz by omega, List.drop_append_of_le_length (by omega)]
          rw [t1, t2, t3, t4]
          simp [List.append_assoc]
         rw [<- e]
         exact hrd.mono (k'.wr_I hob g2') fun _ h => h
        ·cases hs
       ·cases hs
      ·cases hs
     ·cases hs
    | pbuf id v i fp =>
     obtain ⟨i0, b, n, c, kk, u0, hb, i1, hoff, hx⟩ := kx
     simp only [List.cons.injEq, and_true] at hx
     simp only at hs
     split at hs
     ·rename_i v' xs hl
      split at hs
      ·rename_i hv
       subst hv
       simp only [Option.bind_eq_some_iff] at hs
       obtain ⟨z, hz, hs⟩ := hs
       split at hs
       ·rename_i ob hob
        cases hs
        have hob' := yq3 hl hob
        subst hob'
        obtain ⟨G', k', hI, hh, hbs⟩ := k.solids new
        have hlo := k.ob id _ hl
        rcases hlo with ⟨g1, g2, g3⟩ | ⟨b', c', C, T, fz, g1, g2, g3, g4, g5, g6, g7⟩
        ·rw [hb] at g1; cases g1
        ·rw [hb] at g1
         cases g1
         have hlt : i.toNat < xs.length := by omega
         have hch := g7 i.toNat _ (getD_some v'.zero hlt)
         obtain ⟨k2, u2, z2, e1, e2, e3, e4, e5⟩ := w8q (I' := G'.I) (fun b hb => hI b (.inl hb)) (n := u.sz) (D := fun u' => zt9 s u' new) hz hch
         rw [e1] at hoff
         cases hoff
         have hrx := (z9s k e3 ky).mono (fun _ _ => rfl) hI
         have hy := e5 _ hrx
         have hcl := hch.length
         have hin : i.toNat * v'.sz + v'.sz <= c * v'.sz := by
          rw [<- Nat.succ_mul]; exact Nat.mul_le_mul_right _ (by omega)
         have hlen : i.toNat * v'.sz + kk + (a.eval y).cells.toList.length <= C.size := by rw [z5v, hsz]; omega
         have hg4 : b < w.heap.size := (Array.getElem?_eq_some_iff.1 g4).1
         have g2' : G'.bs id = [b] := by rw [hbs]; exact g2
         have hrun := z8a hE hu (off := i.toNat * v'.sz + kk) g4 g5 hsz (by omega) h1
         have hIw := k'.wr_I hob g2' (C := y1u C (i.toNat * v'.sz + kk) (a.eval y).cells.toList) (T := T) (fz := fz)
         refine zi1 (z7w ho hx hrun) (k'.wr (ob' := .buf v' (xs.set i.toNat z)) hob g2' (.inr ⟨b, c, y1u C (i.toNat * v'.sz + kk) (a.eval y).cells.toList, T, fz, by rw [hh, List.length_set]; exact hb, g2', by rw [List.length_set]; exact g3, y0j hg4, z78 (z3e ..) g5, by rw [z3e]; exact g6, ?_⟩)) h
         intro j q hj
         rw [zt7 hlen]
         by_cases ej : j = i.toNat
         ·subst ej
          rw [List.getElem?_set_self hlt] at hj
          cases hj
          rw [wk0 _ _ _ _ _ (by rw [z5v, hsz]; omega) (by rw [Array.length_toList]; omega), z5v, hsz]
          exact hy.mono hIw fun _ h => h
         ·rw [List.getElem?_set_ne (fun e => ej e.symm)] at hj
          have hjl : j < xs.length := (List.getElem?_eq_some_iff.1 hj).1
          have : j * v'.sz + v'.sz <= i.toNat * v'.sz \/ i.toNat * v'.sz + v'.sz <= j * v'.sz := by
           rw [<- Nat.succ_mul, <- Nat.succ_mul]
           rcases Nat.lt_or_gt_of_ne ej with hlt | hgt
           ·exact .inl (Nat.mul_le_mul_right _ (by omega))
           ·exact .inr (Nat.mul_le_mul_right _ (by omega))
          rw [wj9 _ _ _ _ _ (by rw [Array.length_toList]; exact hlen) (by rw [z5v, hsz]; omega)]
          exact ((g7 j q hj).mono (fun _ _ => rfl) (fun b hb => hI b (.inl hb))).mono hIw fun _ h => h
       ·cases hs
      ·cases hs
     ·cases hs
    | prow id v i j =>
     obtain ⟨i0, j0, o', hs', b, n, c, hb, h2, i1, hx⟩ := kx
     simp only [List.cons.injEq, and_true] at hx
     simp only at hs
     split at hs
     ·rename_i v' xs hl
      split at hs
      ·rename_i hv
       obtain ⟨rfl, hq⟩ := hv
       simp only [Option.bind_eq_some_iff] at hs
       obtain ⟨z, hz, hs⟩ := hs
       split at hs
       ·rename_i ob hob
        cases hs
        have hob' := yq4 hl hob
        subst hob'
        obtain ⟨G', k', hI, hh, hbs⟩ := k.solids new
        obtain ⟨C, T, fz, g1, g2, g3, g4, g5, g6, g7, _⟩ := w4r (k.ob id _ hl) hb h2 (by omega)
        have hrx := (z9s k hz ky).mono (fun _ _ => rfl) hI
        have hin : j.toNat * v'.sz + v'.sz <= c * v'.sz := by
         rw [<- Nat.succ_mul]; exact Nat.mul_le_mul_right _ (by omega)
        have hrun := z8a hE hu (off := j.toNat * v'.sz) g3 g7 hsz (by omega) h1
        exact zi1 (z7w ho hx hrun) (k'.mat_put hob (by rw [hh]; exact hb) h2 (by omega) g3 hrx) (by simpa using h)
       ·cases hs
      ·cases hs
     ·cases hs
    | _ => simp at hs
   ·cases hs
  ·cases h
 ·cases h
end
end Vm
/- Grids: slices whose elements are owned slices. -/
namespace Vm
open Go
theorem Unnamed.upd {s : MS} {nm id : Nat} {o : Obj} (h : Unnamed s nm) (ho : o.has nm = false) : Unnamed (s.upd id o) nm :=
 ⟨h.slots, fun t o' h1 hne => by
   rw [zh6] at h1
   by_cases e : t = id
   · simp only [e, if_true, Option.some.injEq] at h1; subst h1; exact ho
   · simp only [e, if_false] at h1; exact h.objs t o' h1 hne, h.saved⟩
section
variable {ρ : Type} {P : Program} {E : Env} {Pr : Nat -> Prop} {w0 : St} {w : World} {stk : List (Array Value)} {s : MS} {a : Act} {G : Gh} {o : Oper} {Q : Exit -> Act -> World -> Prop} {K : AV -> MS -> Option ρ} {r : ρ} {tm : Array Value}
theorem RowOb.cell {I : Nat -> Prop} {t : Ty} {x : List t.den} {v : Value} {bs : List Nat} (k : RowOb w I t x v bs) : cell1 v = true /\ ∃ A n c, v = .slice A n c := by
 rcases k with ⟨rfl, _⟩ | ⟨b, c, C, E, fz, rfl, _⟩
 ·exact ⟨rfl, _, _, _, rfl⟩
 ·exact ⟨rfl, _, _, _, rfl⟩
theorem RowOb.buf {G : Gh} {t : Ty} {x : List t.den} {v : Value} {bs : List Nat} {id : Nat} (k : RowOb w G.I t x v bs) (hh : G.h id = some v) (hb : G.bs id = bs) : Ob w G id (.buf t x) := by
 rcases k with ⟨rfl, k2, k3⟩ | ⟨b, c, C, E, fz, rfl, k2, k3, k4, k5, k6, k7⟩
 ·exact .inl ⟨hh, k2, hb.trans k3⟩
 ·exact .inr ⟨b, c, C, E, fz, hh, hb.trans k2, k3, k4, k5, k6, k7⟩
theorem RowOb.of_buf {G : Gh} {t : Ty} {x : List t.den} {id : Nat} (k : Ob w G id (.buf t x)) : ∃ v, G.h id = some v /\ RowOb w G.I t x v (G.bs id) := by
 rcases k with ⟨k1, k2, k3⟩ | ⟨b, c, C, E, fz, k1, k2, k3, k4, k5, k6, k7⟩
 ·exact ⟨_, k1, .inl ⟨rfl, k2, k3⟩⟩
 ·exact ⟨_, k1, .inr ⟨b, c, C, E, fz, rfl, k2, k3, k4, k5, k6, k7⟩⟩
theorem wd8 (hE : EOk P E) (k : Rel Pr w0 stk s a.tmps w G) {t : TypeId} {x : Operand} (ho : o.op = .load t x) {p : LV} {u : Ty} {nm : Nat} (hp : s.ev x = .one p) (hu : E.ty? t = some u)
  (h : y3u s nm u p K = some r) : o.wp P a w (zb2 Pr w0 stk o a K r) Q := by
 unfold y3u at h
 split at h
 ·rename_i id t1 i
  split at h
  ·rename_i t' xs hob
   split at h
   ·rename_i hc
    obtain ⟨rfl, rfl, hne⟩ := hc
    obtain ⟨_, i0, b, n, c, kk, uu, g1, g2, g3, g4⟩ := (hp ▸ k.ev x : ARd w G.I G.h (.one (.pbuf id (.slice t') i [])) (a.eval x))
    simp only [zc7, Option.some.injEq, Prod.mk.injEq] at g3
    obtain ⟨rfl, rfl⟩ := g3
    have hz1 : (Ty.slice t').sz = 1 := rfl
    simp only [List.cons.injEq, and_true, hz1, Nat.mul_one, Nat.add_zero] at g4
    obtain ⟨b', c', C, T, fz, rb, k1, k2, k3, k4, k5, k6, k7, k8, k9, k10⟩ := k.ob id _ hob
    rw [g1] at k1
    cases k1
    have hi : i.toNat < xs.length := by omega
    have hx : xs[i.toNat]? = some (xs.getD i.toNat []) := by rw [List.getD_eq_getElem?_getD, List.getElem?_eq_getElem hi]; rfl
    have hrow := k9 i.toNat _ hx (by simp)
    obtain ⟨hcell, A, n', cc, hsl⟩ := hrow.cell
    have hone := one_cell (C := C) (i := i.toNat) (by omega)
    obtain ⟨z, q1, q2, q3⟩ := zb0 (w := w) (off := i.toNat) hE hu k4 (by rw [hz1]; omega) (by rw [hz1, hone]; intro c hc; rw [List.mem_singleton] at hc; rw [hc]; exact hcell)
    rw [hz1, hone] at q2
    simp only [Ty.agg, Bool.false_eq_true, if_false] at q3
    rw [z34 q3] at q2
    have hz : z = C.toList.getD i.toNat undef := by simpa using q2
    have kk := k.kill nm
    have hob' : (s.kill nm).obj id = some (.grid t' xs none) := by
     rw [z8r, if_neg (fun e => hne e.symm), hob]; rfl
    have hbi : ∀ bs, (G.at id (.slice (some ⟨b, 0, none⟩) xs.length c) bs).bs id = bs := fun bs => by simp [Gh.at]
    have kr := kk.remake (o' := .grid t' xs (some i.toNat)) (bs := (G.bs id).filter fun q => decide (q ∉ rb i.toNat)) hob' g1 (fun _ _ => rfl) rfl rfl rfl rfl (fun b hb => .inl (List.mem_filter.1 hb).1) (by
      refine ⟨b, c, C, T, fz, fun j => if j = i.toNat then [] else rb j, (Gh.at_self g1 id).trans g1, k2, k3, k4, k5, ?_, ?_, ?_, ?_, ?_⟩
      · rw [hbi]
        exact List.mem_filter.2 ⟨k6, by simp; exact fun hm => (k7 _ hi b hm).2 rfl⟩
      · intro j hj b' hb'
        have hb' : b' ∈ (if j = i.toNat then [] else rb j) := hb'
        by_cases e : j = i.toNat
        · rw [if_pos e] at hb'; cases hb'
        · rw [if_neg e] at hb'
          rw [hbi]
          exact ⟨List.mem_filter.2 ⟨(k7 j hj b' hb').1, by simp; exact k8 j i.toNat hj hi e b' hb'⟩, (k7 j hj b' hb').2⟩
      · intro j j' hj hj' hne' b' hb' hb2
        have hb' : b' ∈ (if j = i.toNat then [] else rb j) := hb'
        have hb2 : b' ∈ (if j' = i.toNat then [] else rb j') := hb2
        by_cases e : j = i.toNat
        · rw [if_pos e] at hb'; cases hb'
        · rw [if_neg e] at hb'
          by_cases e' : j' = i.toNat
          · rw [if_pos e'] at hb2; cases hb2
          · rw [if_neg e'] at hb2; exact k8 j j' hj hj' hne' b' hb' hb2
      · intro j y hy hh
        have e : j ≠ i.toNat := fun e => hh (by rw [e])
        show RowOb w G.I t' y _ (if j = i.toNat then [] else rb j)
        rw [if_neg e]
        exact k9 j y hy (by simp)
      · intro j hj
        show (if j = i.toNat then [] else rb j) = []
        rw [if_pos (by simpa using hj.symm)])
    have ka := kr.add (id := nm) ((z47 s nm).upd rfl) (o := .buf t' (xs.getD i.toNat [])) (v := C.toList.getD i.toNat undef) (bs := rb i.toNat)
     (RowOb.buf hrow (by simp [Gh.at]) (by simp [Gh.at])) (fun b' hb' => k.sep id _ b' hob (k7 _ hi b' hb').1) (fun b' hb' id' o' hn' ho' hm => by
       rw [zh6] at ho'
       by_cases e : id' = id
       · subst e
         rw [hbi] at hm
         have := (List.mem_filter.1 hm).2
         simp at this
         exact this hb'
       · simp only [e, if_false] at ho'
         have hm : b' ∈ G.bs id' := by simpa [Gh.at, e] using hm
         exact e (kk.dis id' id o' _ b' ho' hob' hm (k7 _ hi b' hb').1))
    refine z3u (x := z) (w' := w) (y11 ho g4 q1) ⟨.one (.own nm), _, z, _, rfl, ka, ⟨q3, A, n', cc, ?_, ?_⟩, h⟩
    ·show (if nm = nm then some (C.toList.getD i.toNat undef) else _) = _
     rw [if_pos rfl, hsl]
    ·rw [hz, hsl]
   ·cases h
  ·cases h
 ·cases h
theorem yx5 {C : Array Value} {i j : Nat} {v : Value} (hi : i < C.size) : (y1u C i [v]).toList.getD j undef = if j = i then v else C.toList.getD j undef := by
 rw [List.getD_eq_getElem?_getD, List.getD_eq_getElem?_getD, Array.getElem?_toList, Array.getElem?_toList, y7w]
 by_cases e : j = i
 ·subst e
  rw [if_pos ⟨Nat.le_refl _, by simp, hi⟩, if_pos rfl, Nat.sub_self]; rfl
 ·rw [if_neg (by simp only [List.length_singleton]; omega), if_neg e]
theorem w6c (hE : EOk P E) (k : Rel Pr w0 stk s a.tmps w G) {t : TypeId} {x y : Operand} (ho : o.op = .store t x y) {u : Ty} (hu : E.ty? t = some u) {id nm : Nat} {t' : Ty} {i : Int} {xs : List (List t'.den)} {ys : List t'.den} {hole : Option Nat}
  (hp : s.ev x = .one (.pbuf id (.slice t') i [])) (hl : (s.ev y).leaves? = some [.own nm]) (hob : s.obj id = some (.grid t' xs hole)) (hnb : s.obj nm = some (.buf t' ys)) (hu' : u = .slice t') (hne : nm ≠ id)
  (hh : ∀ j, hole = some j -> j = i.toNat) (h : K .undef ((s.kill nm).upd id (.grid t' (xs.set i.toNat ys) none)) = some r) : o.wp P a w (zb2 Pr w0 stk o a K r) Q := by
 subst hu'
 obtain ⟨_, i0, b, n, c, kk, uu, g1, g2, g3, g4⟩ := (hp ▸ k.ev x : ARd w G.I G.h (.one (.pbuf id (.slice t') i [])) (a.eval x))
 simp only [zc7, Option.some.injEq, Prod.mk.injEq] at g3
 obtain ⟨rfl, rfl⟩ := g3
 have hz1 : (Ty.slice t').sz = 1 := rfl
 simp only [List.cons.injEq, and_true, hz1, Nat.mul_one, Nat.add_zero] at g4
 obtain ⟨b', c', C, T, fz, rb, k1, k2, k3, k4, k5, k6, k7, k8, k9, k10⟩ := k.ob id _ hob
 rw [g1] at k1
 cases k1
 have hi : i.toNat < xs.length := by omega
 obtain ⟨vn, hvn, hrn⟩ := RowOb.of_buf (k.ob nm _ hnb)
 have hcells : (a.eval y).cells.toList = [vn] := by
  have ky := (k.ev y).leaves hl
  obtain ⟨A, n', c', q1, q2⟩ := LsRd.of_one ky
  rw [hvn] at q1
  rw [q2, Option.some.inj q1]
 have hsz : (a.eval y).cells.size = (Ty.slice t').sz := by rw [<- z5v, hcells]; rfl
 have hst := z8a (P := P) (w := w) (off := i.toNat) (x := a.eval y) hE hu k4 k5 hsz (by rw [hz1]; omega) (by rw [hcells]; intro q hq; rw [List.mem_singleton] at hq; rw [hq]; exact hrn.cell.1)
 rw [hcells] at hst
 have kk := k.kill nm
 have hob' : (s.kill nm).obj id = some (.grid t' xs hole) := by
  rw [z8r, if_neg (fun e => hne e.symm), hob]; rfl
 have hbw : b < w.heap.size := (Array.getElem?_eq_some_iff.1 k4).1
 have hbid : ∀ q, q ∈ G.bs nm -> q ∉ G.bs id := fun q hq hq' => hne (k.dis nm id _ _ q hnb hob hq hq')
 have hbn : b ∉ G.bs nm := fun hq => hbid b hq k6
 have hbI : ∀ q, G.I q -> q ≠ b := fun q hq e => (k.sep id _ b hob k6).2.1 (e ▸ hq)
 have hbi : ∀ bs, (G.at id (.slice (some ⟨b, 0, none⟩) xs.length c) bs).bs id = bs := fun bs => by simp [Gh.at]
 have hlen : (xs.set i.toNat ys).length = xs.length := List.length_set ..
 have kr := kk.remake (w' := wr w b (y1u C i.toNat [vn]) T fz) (o' := .grid t' (xs.set i.toNat ys) none) (bs := G.bs id ++ G.bs nm) hob' g1 (fun q hq => wr_ne (fun e => hq (e ▸ k6))) wr_size rfl rfl rfl
  (fun q hq => (List.mem_append.1 hq).elim .inl fun hq => .inr ⟨(k.sep nm _ q hnb hq).1, (k.sep nm _ q hnb hq).2.1, (k.sep nm _ q hnb hq).2.2, fun id' o1 h1 hm =>
    (z0w h1).1 (k.dis id' nm o1 _ q (z0w h1).2.1 hnb hm hq)⟩) (by
  refine ⟨b, c, y1u C i.toNat [vn], T, fz, fun j => if j = i.toNat then G.bs nm else rb j, by rw [hlen]; exact (Gh.at_self g1 id).trans g1, by rw [hlen]; exact k2, by rw [z3e]; exact k3, y0j hbw, z78 (z3e ..) k5, by rw [hbi]; exact List.mem_append_left _ k6, ?_, ?_, ?_, fun _ e => (by cases e)⟩
  · intro j hj q hq
    have hq : q ∈ (if j = i.toNat then G.bs nm else rb j) := hq
    rw [hlen] at hj
    rw [hbi]
    by_cases e : j = i.toNat
    · rw [if_pos e] at hq
      exact ⟨List.mem_append_right _ hq, fun e' => hbn (e' ▸ hq)⟩
    · rw [if_neg e] at hq
      exact ⟨List.mem_append_left _ (k7 j hj q hq).1, (k7 j hj q hq).2⟩
  · intro j j' hj hj' hne' q hq hq'
    have hq : q ∈ (if j = i.toNat then G.bs nm else rb j) := hq
    have hq' : q ∈ (if j' = i.toNat then G.bs nm else rb j') := hq'
    rw [hlen] at hj hj'
    by_cases e : j = i.toNat <;> by_cases e' : j' = i.toNat
    · exact hne' (e.trans e'.symm)
    · rw [if_pos e] at hq; rw [if_neg e'] at hq'; exact hbid q hq (k7 j' hj' q hq').1
    · rw [if_neg e] at hq; rw [if_pos e'] at hq'; exact hbid q hq' (k7 j hj q hq).1
    · rw [if_neg e] at hq; rw [if_neg e'] at hq'; exact k8 j j' hj hj' hne' q hq hq'
  · intro j z hz _
    show RowOb (wr w b (y1u C i.toNat [vn]) T fz) G.I t' z _ (if j = i.toNat then G.bs nm else rb j)
    rw [yx5 (by omega)]
    by_cases e : j = i.toNat
    · subst e
      rw [List.getElem?_set_self hi] at hz
      cases hz
      rw [if_pos rfl, if_pos rfl]
      exact hrn.mono (fun q hq => wr_ne (hbI q hq)) (fun _ h => h) fun q hq => wr_ne fun e => hbn (e ▸ hq)
    · rw [List.getElem?_set_ne (fun e' => e e'.symm)] at hz
      rw [if_neg e, if_neg e]
      exact (k9 j z hz fun e' => e (hh j e')).mono (fun q hq => wr_ne (hbI q hq)) (fun _ h => h) fun q hq => wr_ne (k7 j (List.getElem?_eq_some_iff.1 hz).1 q hq).2)
 exact zi1 (z7w ho g4 hst) kr h
theorem w8a (hE : EOk P E) (k : Rel Pr w0 stk s a.tmps w G) {t : TypeId} {x y : Operand} (ho : o.op = .store t x y) {u : Ty} (hu : E.ty? t = some u) {p : LV} {l : List LV} (hp : s.ev x = .one p) (hl : (s.ev y).leaves? = some l)
  (h : y7b s u p l K = some r) : o.wp P a w (zb2 Pr w0 stk o a K r) Q := by
 unfold y7b at h
 split at h
 ·rename_i id t1 i nm
  split at h
  ·rename_i t' xs hole t2 ys hob hnb
   split at h
   ·rename_i hc
    obtain ⟨rfl, rfl, hne⟩ := hc
    split at h
    ·rename_i ys' hcast
     obtain ⟨e, rfl⟩ := z2w hcast
     cases e
     split at h
     ·exact w6c hE k ho hu hp hl hob hnb rfl hne (fun _ e => by cases e) h
     ·rename_i j
      split at h
      ·rename_i hj
       exact w6c hE k ho hu hp hl hob hnb rfl hne (fun q e => by cases e; exact hj.symm) h
      ·cases h
    ·cases h
   ·cases h
  ·cases h
 ·cases h
theorem getD_lt {α : Type} {l : List (List α)} {i : Nat} (h : i < l.length) : l[i]? = some (l.getD i []) := by rw [List.getD_eq_getElem?_getD, List.getElem?_eq_getElem h]; rfl
theorem y9v {hs : Array Value} {i j : Nat} {v : Value} (hi : i < hs.size) : (hs.setIfInBounds i v).getD j undef = if j = i then v else hs.getD j undef := by
 by_cases e : j = i
 ·subst e; rw [y5v _ _ _ hi, if_pos rfl]
 ·rw [getD_set_ne _ _ _ _ e, if_neg e]
theorem w8l (hE : EOk P E) (k : Rel Pr w0 stk s a.tmps w G) {t : TypeId} {x y : Operand} (ho : o.op = .store t x y) {id : Nat} {t' : Ty} {i j : Int} {xs : List (List t'.den)} (hu : E.ty? t = some (.slice t'))
  (hp : s.ev x = .one (.pgrd id t' i)) (hl : (s.ev y).leaves? = some [.row id t' j]) (hob : s.obj id = some (.mat t' xs none)) (hj : j.toNat < xs.length)
  (h : K .undef (s.upd id (.mat t' xs (some (i.toNat, j.toNat)))) = some r) : o.wp P a w (zb2 Pr w0 stk o a K r) Q := by
 obtain ⟨_, i0, b, n, c, R, g1, g2, g4⟩ := (hp ▸ k.ev x : ARd w G.I G.h (.one (.pgrd id t' i)) (a.eval x))
 simp only [List.cons.injEq, and_true] at g4
 obtain ⟨b', c', C, T, fz, rb, hs, k1, k2, k3, k4, k5, k6, k7, k8, k9, k10, k11, k12⟩ := w4q (k.ob id _ hob) g1
 have k1' := k1
 rw [g1] at k1
 simp only [Option.some.injEq, Value.tuple.injEq, Array.mk.injEq, List.cons.injEq, Value.slice.injEq, Addr.mk.injEq, and_true] at k1
 obtain ⟨⟨rfl, rfl, rfl⟩, rfl⟩ := k1
 obtain ⟨j0, o', hs', A, n', c', q1, q2, q3⟩ := LsRd.of_one ((k.ev y).leaves hl)
 rw [g1] at q1
 simp only [Option.some.injEq, Value.tuple.injEq, Array.mk.injEq, List.cons.injEq, Value.agg.injEq, and_true] at q1
 obtain ⟨rfl, rfl⟩ := q1
 have hi : i.toNat < xs.length := by omega
 have hsz : (a.eval y).cells.size = (Ty.slice t').sz := by rw [<- z5v, q3]; rfl
 have hz1 : (Ty.slice t').sz = 1 := rfl
 have hst := z8a (P := P) (w := w) (off := i.toNat) (x := a.eval y) hE hu k4 k5 hsz (by rw [hz1]; omega) (by rw [q3]; intro q hq; rw [List.mem_singleton] at hq; rw [hq]; rfl)
 rw [q3] at hst
 have hbw : b < w.heap.size := (Array.getElem?_eq_some_iff.1 k4).1
 have hgj : hs.getD j.toNat undef = .slice A n' c' := by rw [Array.getD_eq_getD_getElem?, q2]; rfl
 have hbI : ∀ q, G.I q -> q ≠ b := fun q hq e => (k.sep id _ b hob k6).2.1 (e ▸ hq)
 refine zi1 (z7w ho g4 hst) (k.turn (w' := Vm.wr w b (y1u C i.toNat [.slice A n' c']) T fz) hob (fun q hq => Vm.wr_ne fun e => hq (e ▸ k6)) wr_size rfl rfl rfl ?_) h
 refine .inr ⟨b, c, y1u C i.toNat [.slice A n' c'], T, fz, rb, hs, g1, k2, by rw [z3e]; exact k3, y0j hbw, z78 (z3e ..) k5, k6, k7, k8, fun q y hq => (k9 q y hq).mono (fun p hp => Vm.wr_ne (hbI p hp)) (fun _ h => h) fun p hp => Vm.wr_ne (k7 q (List.getElem?_eq_some_iff.1 hq).1 p hp).2, k10, fun q hq => ?_, fun p q e => by cases e; exact ⟨hi, hj⟩⟩
 rw [yx5 (by omega)]
 have h11 := k11 q hq
 simp only at h11 ⊢
 rw [h11, hgj]
theorem w8m (hE : EOk P E) (k : Rel Pr w0 stk s a.tmps w G) {t : TypeId} {x y : Operand} (ho : o.op = .store t x y) {id : Nat} {t' : Ty} {i j : Int} {xs : List (List t'.den)} (hu : E.ty? t = some (.slice t'))
  (hp : s.ev x = .one (.pgrd id t' i)) (hl : (s.ev y).leaves? = some [.row id t' j]) {a1 b1 : Nat} (hob : s.obj id = some (.mat t' xs (some (a1, b1)))) (hib : i.toNat = b1) (hja : j.toNat = a1)
  (h : K .undef (((s.killR id).upd id (.mat t' ((xs.set a1 (xs.getD b1 [])).set b1 (xs.getD a1 [])) none)).unpin id) = some r) : o.wp P a w (zb2 Pr w0 stk o a K r) Q := by
 obtain ⟨_, i0, b, n, c, R, g1, g2, g4⟩ := (hp ▸ k.ev x : ARd w G.I G.h (.one (.pgrd id t' i)) (a.eval x))
 simp only [List.cons.injEq, and_true] at g4
 obtain ⟨b', c', C, T, fz, rb, hs, k1, k2, k3, k4, k5, k6, k7, k8, k9, k10, k11, k12⟩ := w4q (k.ob id _ hob) g1
 rw [g1] at k1
 simp only [Option.some.injEq, Value.tuple.injEq, Array.mk.injEq, List.cons.injEq, Value.slice.injEq, Addr.mk.injEq, and_true] at k1
 obtain ⟨⟨rfl, rfl, rfl⟩, rfl⟩ := k1
 obtain ⟨j0, o', hs', A, n', c', q1, q2, q3⟩ := LsRd.of_one ((k.ev y).leaves hl)
 rw [g1] at q1
 simp only [Option.some.injEq, Value.tuple.injEq, Array.mk.injEq, List.cons.injEq, Value.agg.injEq, and_true] at q1
 obtain ⟨rfl, rfl⟩ := q1
 obtain ⟨ha, hb⟩ := k12 a1 b1 rfl
 have hsz : (a.eval y).cells.size = (Ty.slice t').sz := by rw [<- z5v, q3]; rfl
 have hz1 : (Ty.slice t').sz = 1 := rfl
 have hst := z8a (P := P) (w := w) (off := i.toNat) (x := a.eval y) hE hu k4 k5 hsz (by rw [hz1]; omega) (by rw [q3]; intro q hq; rw [List.mem_singleton] at hq; rw [hq]; rfl)
 rw [q3] at hst
 have hbw : b < w.heap.size := (Array.getElem?_eq_some_iff.1 k4).1
 have hgj : hs.getD a1 undef = .slice A n' c' := by rw [Array.getD_eq_getD_getElem?, <- hja, q2]; rfl
 have hbI : ∀ q, G.I q -> q ≠ b := fun q hq e => (k.sep id _ b hob k6).2.1 (e ▸ hq)
 have hlen : ((xs.set a1 (xs.getD b1 [])).set b1 (xs.getD a1 [])).length = xs.length := by rw [List.length_set, List.length_set]
 let sg : Nat -> Nat := fun q => if q = b1 then a1 else if q = a1 then b1 else q
 have sgl : ∀ q, q < xs.length -> sg q < xs.length := fun q hq => by
  show (if q = b1 then a1 else if q = a1 then b1 else q) < xs.length
  split
  ·exact ha
  ·split <;> assumption
 have sgi : ∀ p q, p ≠ q -> sg p ≠ sg q := fun p q hpq => by
  show (if p = b1 then a1 else if p = a1 then b1 else p) ≠ (if q = b1 then a1 else if q = a1 then b1 else q)
  split <;> split <;> (try split) <;> (try split) <;> omega
 let hs2 : Array Value := (hs.setIfInBounds a1 (hs.getD b1 undef)).setIfInBounds b1 (hs.getD a1 undef)
 have hs2g : ∀ q, hs2.getD q undef = hs.getD (sg q) undef := fun q => by
  show ((hs.setIfInBounds a1 (hs.getD b1 undef)).setIfInBounds b1 (hs.getD a1 undef)).getD q undef = hs.getD (if q = b1 then a1 else if q = a1 then b1 else q) undef
  rw [y9v (by rw [Array.size_setIfInBounds]; omega), y9v (by omega)]
  split
  ·rfl
  ·split <;> rfl
 have hxs : ∀ q, q < xs.length -> ((xs.set a1 (xs.getD b1 [])).set b1 (xs.getD a1 []))[q]? = some (xs.getD (sg q) []) := fun q hq => by
  show _ = some (xs.getD (if q = b1 then a1 else if q = a1 then b1 else q) [])
  by_cases e : q = b1
  ·subst e
   rw [List.getElem?_set_self (by rw [List.length_set]; exact hq), if_pos rfl]
  ·rw [List.getElem?_set_ne (fun e' => e e'.symm), if_neg e]
   by_cases e2 : q = a1
   ·subst e2
    rw [List.getElem?_set_self hq, if_pos rfl]
   ·rw [List.getElem?_set_ne (fun e' => e2 e'.symm), if_neg e2]
    exact getD_lt hq
 refine zi1 (z7w ho g4 hst) (k.rehead (w' := Vm.wr w b (y1u C i.toNat [.slice A n' c']) T fz) (R' := .agg hs2) hob g1 (fun q hq => Vm.wr_ne fun e => hq (e ▸ k6)) wr_size rfl rfl rfl ?_) h
 refine .inr ⟨b, c, y1u C i.toNat [.slice A n' c'], T, fz, fun q => rb (sg q), hs2, by rw [hlen]; simp [Gh.at], by rw [hlen]; exact k2, by rw [z3e]; exact k3, y0j hbw, z78 (z3e ..) k5, by rw [w9p]; exact k6, fun q hq p hp => by
   rw [hlen] at hq
   rw [w9p]; exact k7 (sg q) (sgl q hq) p hp, fun p q hp hq hpq => k8 (sg p) (sg q) (sgl p (by rw [hlen] at hp; exact hp)) (sgl q (by rw [hlen] at hq; exact hq)) (sgi p q hpq), fun q y hq => ?_, ?_, fun q hq => ?_, fun p q e => by cases e⟩
 ·have hq' : q < xs.length := by have := (List.getElem?_eq_some_iff.1 hq).1; rw [hlen] at this; exact this
  rw [hxs q hq', Option.some.injEq] at hq
  subst hq
  rw [hs2g]
  exact (k9 (sg q) _ (getD_lt (sgl q hq'))).mono (fun p hp => Vm.wr_ne (hbI p hp)) (fun _ h => h) fun p hp => Vm.wr_ne (k7 (sg q) (sgl q hq') p hp).2
 ·show ((hs.setIfInBounds a1 (hs.getD b1 undef)).setIfInBounds b1 (hs.getD a1 undef)).size = _
  rw [Array.size_setIfInBounds, Array.size_setIfInBounds, hlen]; exact k10
 ·rw [hlen] at hq
  rw [yx5 (by omega), hs2g]
  have h11 := k11 q hq
  simp only at h11 ⊢
  show (if q = i.toNat then Value.slice A n' c' else C.toList.getD q undef) = hs.getD (if q = b1 then a1 else if q = a1 then b1 else q) undef
  rw [hib]
  by_cases e : q = b1
  ·rw [if_pos e, if_pos e, hgj]
  ·rw [if_neg e, if_neg e, h11]
   by_cases e2 : q = a1
   ·rw [if_pos e2, if_pos e2]
   ·rw [if_neg e2, if_neg e2]
theorem wg0 (hE : EOk P E) (k : Rel Pr w0 stk s a.tmps w G) {t : TypeId} {x y : Operand} (ho : o.op = .store t x y) {u : Ty} (hu : E.ty? t = some u) {p : LV} {l : List LV} (hp : s.ev x = .one p) (hl : (s.ev y).leaves? = some l)
  (h : yd7 s u p l K = some r) : o.wp P a w (zb2 Pr w0 stk o a K r) Q := by
 unfold yd7 at h
 split at h
 ·rename_i id t1 i id' t2 j
  split at h
  ·rename_i t' xs sw hob
   split at h
   ·rename_i hc
    obtain ⟨rfl, rfl, rfl, rfl⟩ := hc
    split at h
    ·split at h
     ·rename_i hj
      exact w8l hE k ho hu hp hl hob hj h
     ·cases h
    ·rename_i a1 b1
     split at h
     ·rename_i hj
      exact w8m hE k ho hu hp hl hob hj.1 hj.2 h
     ·cases h
   ·cases h
  ·cases h
 ·cases h
theorem wo9 (hE : EOk P E) (k : Rel Pr w0 stk s a.tmps w G) {t : TypeId} {x : Operand} {nm : Nat} (ho : o.op = .load t x)
  (h : (match s.ev x, E.ty? t with
  | .one p, some u => match yy2 s u p with
    | some l => K (zi6 u l) s
    | none => y3u s nm u p K
  | _, _ => none) = some r) : o.wp P a w (zb2 Pr w0 stk o a K r) Q := by
 cases hp : s.ev x <;> simp only [hp] at h <;> try (cases h; done)
 rename_i p
 cases hu : E.ty? t <;> simp only [hu] at h <;> try (cases h; done)
 rename_i u
 cases hl : yy2 s u p with
 | some l =>
  simp only [hl] at h
  exact w8g hE k ho (by simp only [hp, hu, hl]; exact h)
 | none =>
  simp only [hl] at h
  exact wd8 hE k ho hp hu h
theorem wj8 (hE : EOk P E) (k : Rel Pr w0 stk s a.tmps w G) {t : TypeId} {x y : Operand} (ho : o.op = .store t x y)
  (h : (match s.ev x, E.ty? t, (s.ev y).leaves? with
  | .one p, some u, some l => match w2o s u p l with
    | some s => K .undef s
    | none => match p with
      | .pgrd _ _ _ => yd7 s u p l K
      | _ => y7b s u p l K
  | _, _, _ => none) = some r) : o.wp P a w (zb2 Pr w0 stk o a K r) Q := by
 cases hp : s.ev x <;> simp only [hp] at h <;> try (cases h; done)
 rename_i p
 cases hu : E.ty? t <;> simp only [hu] at h <;> try (cases h; done)
 rename_i u
 cases hy : (s.ev y).leaves? <;> simp only [hy] at h <;> try (cases h; done)
 rename_i l
 cases hl : w2o s u p l with
 | some s' =>
  simp only [hl] at h
  exact w5d hE k ho (by simp only [hp, hu, hy, hl]; exact h)
 | none =>
  simp only [hl] at h
  split at h
  ·exact wg0 hE k ho hu hp hy h
  ·exact w8a hE k ho hu hp hy h
end
end Vm
/- Slice expressions. -/
namespace Vm
open Go
section
variable {ρ : Type} {P : Program} {E : Env} {Pr : Nat -> Prop} {w0 : St} {w : World} {stk : List (Array Value)} {s : MS} {a : Act} {G : Gh} {o : Oper} {Q : Exit -> Act -> World -> Prop} {K : AV -> MS -> Option ρ} {r : ρ} {tm : Array Value}
theorem run_sliceBound {k : IntKind} {i : Int} {y : Nat} {code : BoundsCode} (h0 : 0 <= i) (h1 : i <= y) : (Instr.sliceBound (.int k i) y code).run P w = .ok i.toNat w := by
 unfold Instr.sliceBound
 simp [asIntOf, h0, h1]
theorem wi6 {κ : Type} {K : Nat -> Nat -> Option κ} {r : κ} (k : Rel Pr w0 stk s a.tmps w G) {lo : Option Operand} {u : Nat} {uz : Int} (hu : uz = u) (h : (match lo with
      | none => K 0 uz.toNat
      | some l => match s.ev l with
        | .one (.val (.int _) l) => if 0 <= l then (if l <= uz then K l.toNat uz.toNat else none) else none
        | _ => none) = some r) : ∃ l, (match lo.map a.eval with
      | some v => Instr.sliceBound v u .sliceB
      | none => pure 0 : Sem Nat).run P w = .ok l w /\ l <= u /\ K l u = some r /\ (lo = none -> l = 0) := by
 subst hu
 cases lo with
 | none => exact ⟨0, rfl, Nat.zero_le _, h, fun _ => rfl⟩
 | some lo =>
  simp only at h
  split at h
  ·rename_i kk li he
   split at h
   ·split at h
    ·rename_i h0 h1
     have hx : a.eval lo = .int kk li := z4x (he ▸ k.ev lo)
     have h1' : @LE.le Int _ li u := h1
     have h0' : @LE.le Int _ 0 li := h0
     refine ⟨li.toNat, ?_, by omega, h, fun h => by cases h⟩
     simp only [Option.map_some, hx]
     exact run_sliceBound h0 h1
    ·cases h
   ·cases h
  ·cases h
theorem w75 {sl : Bool} {n cap u l : Nat} {lo hi : Option Value} (h1 : (match lo with
      | some v => Instr.sliceBound v u .sliceB
      | none => pure 0 : Sem Nat).run P w = .ok l w) (hh : (match hi with
      | some v => Instr.sliceBound v cap (if sl then .sliceAcap else .sliceAlen)
      | none => pure n : Sem Nat).run P w = .ok u w) : (Instr.sliceBounds sl n cap lo hi none).run P w = .ok (l, u, cap) w := by
 unfold Instr.sliceBounds
 cases lo <;> cases hi <;>
  simp only [Sem.run_bind, Sem.run_pure, Result.andThen_ok, Option.isSome_none, Bool.false_eq_true, if_false, Result.ok.injEq, and_true] at h1 hh ⊢ <;>
  first | (subst h1; subst hh; rfl) | (subst h1; simp only [hh, Result.andThen_ok]) | (subst hh; simp only [h1, Result.andThen_ok]) | (simp only [h1, hh, Result.andThen_ok])
theorem zh7 {κ : Type} {K : Nat -> Nat -> Option κ} {r : κ} (k : Rel Pr w0 stk s a.tmps w G) {n cap : Nat} {lo hi : Option Operand} (h : bounds s n lo hi K = some r) (hn : n <= cap) (sl : Bool) :
  ∃ l u, (Instr.sliceBounds sl n cap (lo.map a.eval) (hi.map a.eval) none).run P w = .ok (l, u, cap) w /\ l <= u /\ u <= n /\ K l u = some r /\ (lo = none -> l = 0) := by
 unfold bounds at h
 simp only at h
 cases hi with
 | none =>
  obtain ⟨l, h1, h2, h3, h4⟩ := wi6 (P := P) (K := K) k rfl h
  exact ⟨l, n, w75 h1 rfl, h2, Nat.le_refl _, h3, h4⟩
 | some hi =>
  simp only at h
  split at h
  ·rename_i kk ui he
   split at h
   ·split at h
    ·rename_i h0 h1
     have hx : a.eval hi = .int kk ui := z4x (he ▸ k.ev hi)
     have h1' : @LE.le Int _ ui n := h1
     have h0' : @LE.le Int _ 0 ui := h0
     have hu : ui = ((ui.toNat : Nat) : Int) := (Int.toNat_of_nonneg h0).symm
     obtain ⟨l, g1, h2, h3, h4⟩ := wi6 (P := P) (K := K) k hu h
     refine ⟨l, ui.toNat, w75 g1 ?_, h2, by omega, h3, h4⟩
     simp only [Option.map_some, hx]
     exact run_sliceBound h0 (by omega)
    ·cases h
   ·cases h
  ·cases h
theorem zj4 {t e : TypeId} {x : Operand} {lo hi : Option Operand} (ho : o.op = .slice t x lo hi none) (hE : EOk P E) (hk : E.kd? t = some (.slice e)) {z : Nat} (hz : E.sz e = some z) {A : Option Addr} {n c : Nat}
  (hx : a.eval x = .slice A n c) {l h : Nat} (hb : (Instr.sliceBounds true n c (lo.map a.eval) (hi.map a.eval) none).run P w = .ok (l, h, c) w) :
  (execOp a.eval o).run P w = .ok (.value (.slice (if c = l then A else A.map (·.add (l * z))) (h - l) (c - l))) w := by
 have hu := z67 hE hk
 unfold execOp
 simp only [ho, Instr.sliceAt, Sem.run_bind, z2q hu, Result.andThen_ok, Instr.slice, hx, Option.map_none, hb, zg6 hE hz, Sem.run_pure]
theorem y81 (hE : EOk P E) {t e : TypeId} {x : Operand} {lo hi : Option Operand} (ho : o.op = .slice t x lo hi none) (hk : E.kd? t = some (.slice e)) {u : Ty} (hz : E.sz e = some u.sz) {s' : MS} {G' : Gh}
  (k : Rel Pr w0 stk s a.tmps w G) (k' : Rel Pr w0 stk s' a.tmps w G') {A : Option Addr} {n c : Nat} {xs : List u.den} (hx : a.eval x = .slice A n c) (hr : SlRd w G'.I u.sz (Rd w G'.I u) A n c xs) {m : Nat} (hm : m = n)
  (h : bounds s m lo hi (fun l h => K (.one (.val (.slice u) ((xs.take h).drop l))) s') = some r) (hcap : n <= c) : o.wp P a w (zb2 Pr w0 stk o a K r) Q := by
 subst hm
 obtain ⟨l, hh, h1, h2, h3, h4, _⟩ := zh7 (P := P) k h hcap true
 refine z3u (zj4 ho hE hk hz hx h1) ⟨.one (.val (.slice u) ((xs.take hh).drop l)), s', _, G', rfl, k', ⟨rfl, _, _, _, rfl, (ye2 hr h2 h3).1⟩, h4⟩
theorem w78 {α : Type} {I : Nat -> Prop} {sz : Nat} {R : α -> List Value -> Prop} {A : Option Addr} {n c : Nat} {xs : List α} (k : SlRd w I sz R A n c xs) : n <= c := by
 obtain ⟨hn, k⟩ := k
 cases A with
 | none => obtain ⟨rfl, rfl⟩ := k; simp [hn]
 | some a => exact k.1
theorem v3p {t e : TypeId} (hE : EOk P E) (hk : E.kd? t = some (.slice e)) : ∃ te, E.ti e = some te := by
 obtain ⟨ti, h1, h2⟩ := ze3 hk
 obtain ⟨_, ⟨d, _, _, h3⟩, _, _⟩ := hE.te t ti h1
 rw [h2] at h3
 obtain ⟨_, te, h4, _⟩ := h3
 exact ⟨te, h4⟩
theorem w2k (hE : EOk P E) {t e : TypeId} {x : Operand} {hi : Option Operand} (ho : o.op = .slice t x none hi none) (hk : E.kd? t = some (.slice e)) {z : Nat} (hz : E.sz e = some z)
  (k : Rel Pr w0 stk s a.tmps w G) {id : Nat} {A : Option Addr} {n c m : Nat} (hid : G.h id = some (.slice A n c)) (hm : m <= n) (hc : n <= c) (hx : a.eval x = .slice A m c)
  (h : bounds s m none hi (fun _ h => K (.one (.pre id h)) s) = some r) : o.wp P a w (zb2 Pr w0 stk o a K r) Q := by
 obtain ⟨l, u, h1, h2, h3, h4, h5⟩ := zh7 (P := P) k h (Nat.le_trans hm hc) true
 have := h5 rfl
 subst this
 have hr := zj4 ho hE hk hz hx h1
 have e : (if c = 0 then A else A.map (·.add (0 * z))) = A := by
  split
  ·rfl
  ·cases A with
   | none => rfl
   | some b => simp [Addr.add]
 rw [e] at hr
 exact z3u hr ⟨.one (.pre id u), s, _, G, rfl, k, ⟨rfl, A, n, c, hid, by omega, rfl⟩, h4⟩
theorem w8z (hE : EOk P E) {t e : TypeId} {x : Operand} {hi : Option Operand} (ho : o.op = .slice t x none hi none) (hk : E.kd? t = some (.slice e)) {z : Nat} (hz : E.sz e = some z)
  (k : Rel Pr w0 stk s a.tmps w G) {id : Nat} {A : Option Addr} {n c : Nat} {R : Value} (hid : G.h id = some (.tuple #[.slice A n c, R])) (hc : n <= c) (hx : a.eval x = .slice A n c)
  (h : bounds s n none hi (fun _ h => K (.one (.gpre id h)) s) = some r) : o.wp P a w (zb2 Pr w0 stk o a K r) Q := by
 obtain ⟨l, u, h1, h2, h3, h4, h5⟩ := zh7 (P := P) k h hc true
 have := h5 rfl
 subst this
 have hr := zj4 ho hE hk hz hx h1
 have e : (if c = 0 then A else A.map (·.add (0 * z))) = A := by
  split
  ·rfl
  ·cases A with
   | none => rfl
   | some b => simp [Addr.add]
 rw [e] at hr
 exact z3u hr ⟨.one (.gpre id u), s, _, G, rfl, k, ⟨rfl, A, n, c, R, hid, by omega, rfl⟩, h4⟩
theorem zq2 {id : Nat} {t : Ty} {xs : List t.den} (k : Ob w G id (.buf t xs)) {A : Option Addr} {n c : Nat} (hh : G.h id = some (.slice A n c)) : n = xs.length /\ n <= c := by
 rcases k with ⟨k1, k2, k3⟩ | ⟨b, c', C, T, fz, k1, k2, k3, k4, k5, k6, k7⟩
 ·rw [k1] at hh; cases hh; simp [k2]
 ·rw [k1] at hh; cases hh; exact ⟨rfl, k3⟩
theorem v2p (_ : EOk P E) {t e : TypeId} (_ : E.kd? t = some (.slice e)) {z : Nat} (hz : E.sz e = some z) {u : Ty} (h : E.sz e = some u.sz) : z = u.sz := by
 rw [hz] at h; cases h; rfl
theorem yt6 (hE : EOk P E) {t e : TypeId} {x : Operand} {lo hi : Option Operand} (ho : o.op = .slice t x lo hi none) (hk : E.kd? t = some (.slice e)) {u : Ty} (hz : E.sz e = some u.sz) (k : Rel Pr w0 stk s a.tmps w G)
  {id : Nat} {A : Option Addr} {n c m : Nat} (hid : G.h id = some (.slice A n c)) (hm : m <= n) (hn : n <= c) (hx : a.eval x = .slice A m c) (h : bounds s m lo hi (fun l h => K (.one (.vw id u l (h - l))) s) = some r) : o.wp P a w (zb2 Pr w0 stk o a K r) Q := by
 obtain ⟨l, hh, h1, h2, h3, h4, _⟩ := zh7 (P := P) k h (by omega : m <= c) true
 refine z3u (zj4 ho hE hk hz hx h1) ⟨.one (.vw id u l (hh - l)), s, _, G, rfl, k, ⟨rfl, A, n, c, hid, by omega, rfl⟩, h4⟩
theorem w2l (hE : EOk P E) (k : Rel Pr w0 stk s a.tmps w G) {t e : TypeId} {x : Operand} {lo hi : Option Operand} (ho : o.op = .slice t x lo hi none) (hk : E.kd? t = some (.slice e)) {v : LV} (hv : s.ev x = .one v)
  {z : Nat} (hz : E.sz e = some z) {still : Bool} (h : w79 s still z v lo hi (fun v s => K (.one v) s) = some r) : o.wp P a w (zb2 Pr w0 stk o a K r) Q := by
 have kx : ARd w G.I G.h (.one v) (a.eval x) := hv ▸ k.ev x
 obtain ⟨_, kx⟩ := kx
 unfold w79 at h
 split at h
 ·rename_i u xs
  split at h
  ·rename_i hu
   obtain ⟨A, n, c, hx, hr⟩ := kx
   simp only [List.cons.injEq, and_true] at hx
   exact y81 hE ho hk (u := u) (by rw [hz, hu]) k k hx hr hr.1.symm h (w78 hr)
  ·cases h
 ·have hx : a.eval x = .slice none 0 0 := by simpa [LRd] using kx
  obtain ⟨l, u, h1, h2, h3, h4, _⟩ := zh7 (P := P) k h (Nat.le_refl 0) true
  have : l = 0 /\ u = 0 := by omega
  obtain ⟨rfl, rfl⟩ := this
  exact z3u (zj4 ho hE hk hz hx h1) ⟨.one .nil, s, _, G, rfl, k, ⟨rfl, rfl⟩, h4⟩
 ·rename_i id
  split at h
  ·rename_i u xs hob
   split at h
   ·rename_i hu
    obtain ⟨A, n, c, hid, hx⟩ := kx
    simp only [List.cons.injEq, and_true] at hx
    have hcap := zq2 (k.ob id _ hob) hid
    split at h
    ·rw [<- hcap.1] at h
     exact w2k hE ho hk hz k hid (Nat.le_refl _) hcap.2 hx h
    ·rw [<- hcap.1] at h
     exact yt6 hE ho hk (u := u) (by rw [hz, hu]) k hid (Nat.le_refl _) hcap.2 hx h
   ·cases h
  ·cases h
 ·rename_i id m
  split at h
  ·rename_i u xs hob
   split at h
   ·rename_i hu
    obtain ⟨A, n, c, hid, hm, hx⟩ := kx
    simp only [List.cons.injEq, and_true] at hx
    have hcap := zq2 (k.ob id _ hob) hid
    split at h
    ·exact w2k hE ho hk hz k hid hm hcap.2 hx h
    ·exact yt6 hE ho hk (u := u) (by rw [hz, hu]) k hid hm hcap.2 hx h
   ·cases h
  ·cases h
 ·rename_i id u lo0 m
  split at h
  ·rename_i u' xs hob
   split at h
   ·rename_i hu
    obtain ⟨hu, rfl⟩ := hu
    obtain ⟨A, n, c, hid, hm, hx⟩ := kx
    simp only [List.cons.injEq, and_true] at hx
    have hcap := zq2 (k.ob id _ hob) hid
    obtain ⟨G', k', hI, hown, _, hh, hbs⟩ := k.solid id
    have hr := w52 (zy1 (k.ob id _ hob) rfl) hid hm
    have hr' : Rd w G'.I (.slice u) ((xs.take (lo0 + m)).drop lo0) [.slice (if c = lo0 then A else A.map (·.add (lo0 * u.sz))) m (c - lo0)] := hr.mono (fun _ _ => rfl) fun b hb => hb.elim (hI b) (hown _ _ hob rfl b)
    obtain ⟨A', n', c', he, hr'⟩ := hr'
    simp only [List.cons.injEq, Value.slice.injEq, and_true] at he
    obtain ⟨rfl, rfl, rfl⟩ := he
    exact y81 hE ho hk (u := u) (xs := (xs.take (lo0 + m)).drop lo0) (by rw [hz, hu]) k k' hx hr' rfl h (by omega)
   ·cases h
  ·cases h
 ·rename_i id
  split at h
  ·rename_i u xs hob
   split at h
   ·rename_i hu
    obtain ⟨A, n, c, R, hid, hx⟩ := kx
    simp only [List.cons.injEq, and_true] at hx
    obtain ⟨G', k', hI, hown, _, hh, hbs⟩ := k.solid id
    obtain ⟨hr, hn⟩ := yy7 (zy1 (k.ob id _ hob) rfl) (A := A) (n := n) (c := c) (by rw [hid]; rfl) (Nat.le_refl _)
    rw [hn, List.take_length] at hr
    have hr' : Rd w G'.I (.slice (.slice u)) xs [.slice A xs.length c] := hr.mono (fun _ _ => rfl) fun b hb => hb.elim (hI b) (hown _ _ hob rfl b)
    obtain ⟨A', n', c', he, hr'⟩ := hr'
    simp only [List.cons.injEq, Value.slice.injEq, and_true] at he
    obtain ⟨rfl, rfl, rfl⟩ := he
    rw [hn] at hx
    split at h
    ·have hc := w78 hr'
     rw [hn] at hid
     exact w8z hE ho hk hz k hid hc hx h
    ·exact y81 hE ho hk (u := .slice u) (xs := xs) (by rw [hz, <- hu]; rfl) k k' hx hr' rfl h (w78 hr')
   ·cases h
  ·cases h
 ·rename_i id u i
  split at h
  ·rename_i u' xs hob
   split at h
   ·rename_i hu
    obtain ⟨hu, rfl⟩ := hu
    obtain ⟨G', k', hI, hown, _, hh, hbs⟩ := k.solid id
    have hr := yy8 k (t := .slice u) (v := .row id u i) (x := xs.getD i.toNat []) (by simp [conv, hob, zf6]) kx
    have hr' : Rd w G'.I (.slice u) (xs.getD i.toNat []) [a.eval x] := hr.mono (fun _ _ => rfl) fun b hb => hb.elim (hI b) (by
      rintro ⟨v, hv, id', hid', ⟨o', r', ho', hr'⟩, hb2⟩
      rw [List.mem_singleton] at hv
      subst hv
      rw [show LV.refs (.row id u i) = [id] from rfl, List.mem_singleton] at hid'
      subst hid'
      exact hown _ _ ho' hr' b hb2)
    obtain ⟨A', n', c', he, hr'⟩ := hr'
    simp only [List.cons.injEq, and_true] at he
    exact y81 hE ho hk (u := u) (xs := xs.getD i.toNat []) (by rw [hz, hu]) k k' he hr' hr'.1.symm h (w78 hr')
   ·cases h
  ·cases h
 ·cases h
theorem Rel.yieldUp (k : Rel Pr w0 stk s tm w G) {id : Nat} {ob : Obj} (h : s.obj id = some ob) :
  Rel Pr w0 stk (s.kill id) tm w (G.with (G.bs id)) := by
 have := (k.kill id).mono (I' := fun b => G.I b \/ b ∈ G.bs id) (Keep.refl Pr w) (fun _ _ => rfl) (fun _ h => .inl h) (fun b hb => hb.elim (k.isz b) fun hb => (k.sep id ob b h hb).2.2) (fun id' o' b h' hb => ⟨rfl, fun hI => ?_⟩) (fun b hp hb => hb.elim (k.old b hp) fun hb => absurd hp (k.sep id ob b h hb).1)
 ·exact this
 ·obtain ⟨hne, h'', _⟩ := z0w h'
  rcases hI with hI | hI
  ·exact (k.sep id' o' b h'' hb).2.1 hI
  ·exact hne (k.dis id' id o' ob b h'' h hb hI)
theorem w5c (hE : EOk P E) (k : Rel Pr w0 stk s a.tmps w G) {still : Bool} {t : TypeId} {x : Operand} {lo hi : Option Operand} (ho : o.op = .slice t x lo hi none)
  (h : (match E.kd? t, s.ev x with
  | some (.ar n e), .one (.pbox id off) => match s.obj id with
    | some (.box l) => match y5r l off with
      | some (.val (.arr n' u) xs :: _) => if still then none else if n' = n /\ E.sz e = some u.sz then bounds s n lo hi fun a b => K (.one (.val (.slice u) ((xs.take b).drop a))) (s.kill id) else none
      | _ => none
    | _ => none
  | some (.slice e), .one v => match E.sz e with
    | some z => w79 s still z v lo hi fun v s => K (.one v) s
    | none => none
  | some .sc, .one (.val .str b) => if E.ty? t = some .str then bounds s b.size lo hi fun l h => K (.one (.val .str (b.extract l h))) s else none
  | _, _ => none) = some r) : o.wp P a w (zb2 Pr w0 stk o a K r) Q := by
 split at h
 ·rename_i n e id off hk hv
  split at h
  ·rename_i l hob
   split at h
   ·rename_i n' u xs rest hd
    split at h
    ·cases h
    ·split at h
     ·rename_i hq
      obtain ⟨rfl, hz⟩ := hq
      have kx : ARd w G.I G.h (.one (.pbox id off)) (a.eval x) := hv ▸ k.ev x
      obtain ⟨_, b, hb, hx⟩ := kx
      simp only [List.cons.injEq, and_true] at hx
      obtain ⟨b', C, T, fz, g1, g2, g3, g4, g5⟩ := k.ob id _ hob
      rw [hb] at g1
      cases g1
      obtain ⟨m, _, e2, c2⟩ := za0 hd
      rw [e2] at g5
      obtain ⟨d1, d2, f1, k1, k2⟩ := LsRd.split g5
      obtain ⟨d3, d4, f2, k3, k4⟩ := k2
      have l1 := k1.length
      have l3 : d3.length = n' * u.sz := Rd.length (t := .arr n' u) k3
      obtain ⟨ln, k3⟩ := k3
      have k' := k.yieldUp hob
      have hC : C.size = off + (n' * u.sz + d4.length) := by
       rw [<- Array.length_toList, f1, f2]; simp [l1, l3, c2]
      have hr : SlRd w (G.with (G.bs id)).I u.sz (Rd w (G.with (G.bs id)).I u) (some ⟨b, off, none⟩) n' n' xs := by
       refine ⟨ln.symm, Nat.le_refl _, .inr ⟨rfl, .inr (by rw [g2]; simp), C, T, fz, g3, by simp only; omega, fun i y hy => ?_⟩⟩
       have := ArRd.at (fun _ _ => Rd.length) k3 hy
       have hi : i < xs.length := (List.getElem?_eq_some_iff.1 hy).1
       have hin : i * u.sz + u.sz <= n' * u.sz := by rw [<- Nat.succ_mul]; exact Nat.mul_le_mul_right _ (by omega)
       have e : (C.toList.drop (off + i * u.sz)).take u.sz = (d3.drop (i * u.sz)).take u.sz := by
        rw [f1, f2, List.drop_append, List.drop_of_length_le (by omega), List.nil_append, show off + i * u.sz - d1.length = i * u.sz by omega, List.drop_append_of_le_length (by omega),
          List.take_append_of_le_length (by simp; omega)]
       simp only [e]
       exact this.mono (fun _ _ => rfl) fun _ h => .inl h
      obtain ⟨l', uu, h1, h2, h3, h4, _⟩ := zh7 (P := P) k h (Nat.le_refl n') false
      have hun := yu1 hE hk
      have hs := ye2 hr h2 h3
      refine z3u (x := .slice (some (if n' = l' then ⟨b, off, none⟩ else (⟨b, off, none⟩ : Addr).add (l' * u.sz))) (uu - l') (n' - l')) ?_
       ⟨.one (.val (.slice u) ((xs.take uu).drop l')), _, _, _, rfl, k', ⟨rfl, _, _, _, rfl, ?_⟩, h4⟩
      ·unfold execOp
       simp only [ho, Instr.sliceAt, Sem.run_bind, z2q hun, Result.andThen_ok, hx, Instr.sureAddr, Option.map_none, h1, zg6 hE hz, Sem.run_pure]
      ·have hs := hs.1
       split at hs
       ·rename_i e; rw [if_pos e]; exact hs
       ·rename_i e; rw [if_neg e]; exact hs
     ·cases h
   ·cases h
  ·cases h
 ·rename_i e v hk hv
  split at h
  ·rename_i z hz
   exact w2l hE k ho hk hv hz h
  ·cases h
 ·rename_i b hk hv
  split at h
  ·rename_i ht
   have hx : a.eval x = .string b := y14 (hv ▸ k.ev x)
   obtain ⟨l', uu, h1, h2, h3, h4, _⟩ := zh7 (P := P) k h (Nat.le_refl b.size) false
   refine z3u (x := .string (b.extract l' uu)) ?_ ⟨.one (.val .str (b.extract l' uu)), s, _, G, rfl, k, ⟨rfl, rfl⟩, h4⟩
   have hun := yz8 hE ht
   unfold execOp
   simp only [ho, Instr.sliceAt, Instr.slice, Sem.run_bind, z2q hun, Result.andThen_ok, hx, Option.map_none, Option.isSome_none, Bool.false_eq_true, if_false, h1, Sem.run_pure]
  ·cases h
 ·cases h
end
end Vm
/- What append and copy read: a row of elements, out of a slice or a string. -/
namespace Vm
open Go
def Src (P : Program) (w : World) (sz : Nat) {α : Type} (R : α -> List Value -> Prop) (ys : List α) (x : Value) : Prop :=
 ∃ cs : List Value, cs.length = ys.length * sz /\ (∀ c ∈ cs, cell1 c = true) /\ (∀ (i : Nat) (y : α), ys[i]? = some y -> R y ((cs.drop (i * sz)).take sz)) /\
  (∀ w', (Builtin.lenOf x).run P w' = .ok ys.length w') /\ ∀ w' m, w'.heap = w.heap -> m <= ys.length -> (Builtin.firstCells sz m x).run P w' = .ok (cs.take (m * sz)).toArray w'
section
variable {ρ : Type} {P : Program} {E : Env} {Pr : Nat -> Prop} {w0 : St} {w : World} {stk : List (Array Value)} {s : MS} {a : Act} {G : Gh} {o : Oper} {Q : Exit -> Act -> World -> Prop} {K : AV -> MS -> Option ρ} {r : ρ} {tm : Array Value}
theorem zx1 {α : Type} {sz c : Nat} {R : α -> List Value -> Prop} : Src P w sz R ([] : List α) (.slice none 0 c) :=
 ⟨[], by simp, by simp, by simp, fun w' => rfl, fun w' m _ _ => by simp [run_firstCells_none]⟩
theorem w7a {α : Type} {sz : Nat} {R : α -> List Value -> Prop} (a : Addr) : Src P w sz R ([] : List α) (.slice (some a) 0 0) := by
 refine ⟨[], by simp, by simp, by simp, fun w' => rfl, fun w' m _ hm => ?_⟩
 obtain rfl : m = 0 := by simpa using hm
 rw [List.take_nil]; exact run_firstCells_some (P := P) w' sz 0 a 0 0 [] (by simp) (fun j v hj => by simp at hj)
theorem y3x {α : Type} {sz c b off : Nat} {R : α -> List Value -> Prop} {ys : List α} {C : Array Value} {T : TypeId} {fz : Nat × Nat} (h : w.heap[b]? = some (.cells C T fz)) (hz : off + ys.length * sz <= C.size)
  (hl : ∀ x cs, R x cs -> ∀ c ∈ cs, cell1 c = true) (hR : ∀ (i : Nat) (y : α), ys[i]? = some y -> R y ((C.toList.drop (off + i * sz)).take sz)) : Src P w sz R ys (.slice (some ⟨b, off, none⟩) ys.length c) := by
 have hlen : ((C.toList.drop off).take (ys.length * sz)).length = ys.length * sz := by simp; omega
 have hR' : ∀ (i : Nat) (y : α), ys[i]? = some y -> R y ((((C.toList.drop off).take (ys.length * sz)).drop (i * sz)).take sz) := by
  intro i y hy
  have hi : i < ys.length := (List.getElem?_eq_some_iff.1 hy).1
  rw [z4i _ _ _ _ _ (by rw [<- Nat.succ_mul]; exact Nat.mul_le_mul_right _ hi)]
  exact hR i y hy
 refine ⟨(C.toList.drop off).take (ys.length * sz), hlen, ?_, hR', fun w' => rfl, fun w' m hw hm => ?_⟩
 ·intro c hc
  obtain ⟨j, hj, rfl⟩ := List.getElem_of_mem hc
  rw [hlen] at hj
  have hs : 0 < sz := by
   rcases Nat.eq_zero_or_pos sz with h | h
   ·subst h; simp at hj
   ·exact h
  have hi : j / sz < ys.length := Nat.div_lt_of_lt_mul (by rw [Nat.mul_comm]; exact hj)
  have := hl _ _ (hR' (j / sz) _ (List.getElem?_eq_getElem hi))
  refine this _ ?_
  have hmod : j % sz < sz := Nat.mod_lt _ hs
  have hdm : j / sz * sz + j % sz = j := by rw [Nat.mul_comm]; exact Nat.div_add_mod j sz
  refine List.mem_iff_getElem?.2 ⟨j % sz, ?_⟩
  rw [List.getElem?_take_of_lt hmod, List.getElem?_drop, hdm, List.getElem?_eq_getElem]
 ·have hle : m * sz <= ys.length * sz := Nat.mul_le_mul_right _ hm
  refine run_firstCells_some (P := P) w' sz m ⟨b, off, none⟩ _ c _ (by rw [List.length_take, hlen]; omega) (fun j v hj => ?_)
  rw [addr_add, cell?_at (by rw [hw]; exact h)]
  rw [List.take_take, List.getElem?_take] at hj
  split at hj
  ·rw [List.getElem?_drop, Array.getElem?_toList] at hj; exact hj
  ·cases hj
theorem wj4 {id : Nat} {t : Ty} {xs : List t.den} (k : Ob w G id (.buf t xs)) {A : Option Addr} {n c m : Nat} (hh : G.h id = some (.slice A n c)) (hm : m <= n) :
  Src P w t.sz (Rd w G.I t) (xs.take m) (.slice A m c) := by
 rcases k with ⟨k1, k2, k3⟩ | ⟨b, c', C, T, fz, k1, k2, k3, k4, k5, k6, k7⟩
 ·rw [k1] at hh
  cases hh
  obtain rfl : m = 0 := by omega
  rw [k2]
  exact zx1
 ·rw [k1] at hh
  cases hh
  have e : (xs.take m).length = m := by simp; omega
  have := y3x (P := P) (c := c) (off := 0) (ys := xs.take m) (R := Rd w G.I t) (sz := t.sz) k4 (by
    rw [e]; have : m * t.sz <= c * t.sz := Nat.mul_le_mul_right _ (by omega)
    omega) (fun _ _ => Rd.cell1) (fun i y hy => by
      rw [List.getElem?_take] at hy
      split at hy
      · simpa using k7 i y hy
      · cases hy)
  rw [e] at this
  exact this
theorem v0a {t : Ty} {A : Option Addr} {n c : Nat} {xs : List t.den} {I J : Nat -> Prop} (k : SlRd w J t.sz (Rd w I t) A n c xs) : Src P w t.sz (Rd w I t) xs (.slice A n c) := by
 obtain ⟨rfl, k⟩ := k
 cases A with
 | none => obtain ⟨rfl, rfl⟩ := k; exact zx1
 | some a =>
  obtain ⟨b, off, sp⟩ := a
  obtain ⟨k3, k⟩ := k
  rcases k with k | ⟨k1, k2, C, T, fz, k4, k5, k6⟩
  ·subst k
   obtain rfl : xs = [] := List.length_eq_zero_iff.1 (by omega)
   exact w7a _
  simp only at k1
  subst k1
  refine y3x k4 ?_ (fun _ _ => Rd.cell1) k6
  have : xs.length * t.sz <= c * t.sz := Nat.mul_le_mul_right _ k3
  simp only at k5; omega
theorem v23 {t : Ty} {A : Option Addr} {n c : Nat} {xs : List t.den} {I : Nat -> Prop} (k : SlRd w I t.sz (Rd w I t) A n c xs) : Src P w t.sz (Rd w I t) xs (.slice A n c) := by
 obtain ⟨rfl, k⟩ := k
 cases A with
 | none => obtain ⟨rfl, rfl⟩ := k; exact zx1
 | some a =>
  obtain ⟨b, off, sp⟩ := a
  obtain ⟨k3, k⟩ := k
  rcases k with k | ⟨k1, k2, C, T, fz, k4, k5, k6⟩
  ·subst k
   obtain rfl : xs = [] := List.length_eq_zero_iff.1 (by omega)
   exact w7a _
  simp only at k1
  subst k1
  refine y3x k4 ?_ (fun _ _ => Rd.cell1) k6
  have : xs.length * t.sz <= c * t.sz := Nat.mul_le_mul_right _ k3
  simp only at k5; omega
theorem wq8 {id : Nat} {t : Ty} {xs : List t.den} (k : Ob w G id (.buf t xs)) {A : Option Addr} {n c lo m : Nat} (hh : G.h id = some (.slice A n c)) (hm : lo + m <= n) :
  Src P w t.sz (Rd w G.I t) ((xs.take (lo + m)).drop lo) (.slice (if c = lo then A else A.map (·.add (lo * t.sz))) m (c - lo)) := by
 rcases k with ⟨k1, k2, k3⟩ | ⟨b, c', C, E, fz, k1, k2, k3, k4, k5, k6, k7⟩
 ·rw [k1] at hh
  cases hh
  subst k2
  obtain ⟨rfl, rfl⟩ : lo = 0 /\ m = 0 := by omega
  exact zx1
 ·rw [k1] at hh
  cases hh
  have hs : SlRd w (fun b' => b' = b) t.sz (Rd w G.I t) (some ⟨b, 0, none⟩) xs.length c xs :=
   ⟨rfl, k3, .inr ⟨rfl, rfl, C, E, fz, k4, by simpa using k6, fun i x hx => by simpa using k7 i x hx⟩⟩
  have := (ye2 hs (Nat.le_add_right lo m) hm).1
  rw [Nat.add_sub_cancel_left] at this
  exact v0a this
theorem v09 {I : Nat -> Prop} {t : Ty} {x : List t.den} {v : Value} {bs : List Nat} (k : RowOb w I t x v bs) : Src P w t.sz (Rd w I t) x v := by
 rcases k with ⟨rfl, rfl, k3⟩ | ⟨b, c, C, E, fz, rfl, k2, k3, k4, k5, k6, k7⟩
 ·exact zx1
 ·refine y3x (off := 0) k4 ?_ (fun _ _ => Rd.cell1) fun i y hy => by rw [Nat.zero_add]; exact k7 i y hy
  have : x.length * t.sz <= c * t.sz := Nat.mul_le_mul_right _ k3
  omega
theorem wq7 (k : Rel Pr w0 stk s tm w G) {t : Ty} {v : LV} {ys : List t.den} {x : Value} (hg : we5 s v = false) (h : conv s (.slice t) v = some ys) (hv : LRd w G.I G.h v [x]) :
  Src P w t.sz (Rd w G.I t) ys x := by
 have hval : ∀ {u : Ty} {y : u.den}, zf6 (.slice t) y = some ys -> Rd w G.I u y [x] -> Src P w t.sz (Rd w G.I t) ys x := by
  intro u y h hv
  obtain ⟨e, rfl⟩ := z2w h
  subst e
  obtain ⟨A, n, c, h1, h2⟩ := hv
  simp only [List.cons.injEq, and_true] at h1
  subst h1
  exact v23 h2
 cases v with
 | nil =>
  simp only [conv, Option.some.injEq] at h
  subst h
  have : x = .slice none 0 0 := by simpa [LRd] using hv
  rw [this]; exact zx1
 | val u y =>
  cases u with
  | nsl u =>
   simp only [conv] at h
   obtain ⟨A, n, c, h1, h2, _⟩ := hv
   exact hval (u := .slice u) h ⟨A, n, c, h1, h2⟩
  | _ => simp only [conv] at h; exact hval h hv
 | own id =>
  simp only [conv] at h
  split at h
  ·rename_i u xs ho
   obtain ⟨A, n, c, h1, h2⟩ := hv
   simp only [List.cons.injEq, and_true] at h2
   subst h2
   obtain ⟨e, rfl⟩ := z2w h
   cases e
   have := wj4 (P := P) (k.ob id _ ho) h1 (Nat.le_refl _)
   rw [(zq2 (k.ob id _ ho) h1).1, List.take_length] at this
   rw [(zq2 (k.ob id _ ho) h1).1]
   exact this
  ·rename_i u xs ho
   simp [we5, ho] at hg
  ·cases h
 | pre id n =>
  simp only [conv] at h
  split at h
  ·rename_i u xs ho
   obtain ⟨A, m, c, h1, h2, h3⟩ := hv
   simp only [List.cons.injEq, and_true] at h3
   subst h3
   obtain ⟨e, rfl⟩ := z2w h
   cases e
   exact wj4 (P := P) (k.ob id _ ho) h1 h2
  ·cases h
 | vw id u lo n =>
  simp only [conv] at h
  split at h
  ·rename_i u' xs ho
   split at h
   ·rename_i e
    subst e
    obtain ⟨A, m, c, h1, h2, h3⟩ := hv
    simp only [List.cons.injEq, and_true] at h3
    subst h3
    obtain ⟨e, rfl⟩ := z2w h
    cases e
    exact wq8 (P := P) (k.ob id _ ho) h1 h2
   ·cases h
  ·cases h
 | grd id => cases hg
 | row id u i =>
  simp only [conv] at h
  split at h
  ·rename_i u' xs ho
   split at h
   ·rename_i e
    subst e
    obtain ⟨i0, o', hs, A, n, c, h1, h2, h3⟩ := hv
    simp only [List.cons.injEq, and_true] at h3
    subst h3
    obtain ⟨e, rfl⟩ := z2w h
    cases e
    obtain ⟨b, c', C, E, fz, rb, hs', k1, k2, k3, k4, k5, k6, k7, k8, k9, k10, k11⟩ := yk3 (k.ob id _ ho) h1 h2
    have hi := (wf9 (k.ob id _ ho) h1 h2).1
    rw [h1] at k1
    simp only [Option.some.injEq, Value.tuple.injEq, Array.mk.injEq, List.cons.injEq, Value.agg.injEq, and_true] at k1
    obtain ⟨rfl, rfl⟩ := k1
    have hr := k9 i.toNat _ (getD_lt hi)
    rw [Array.getD_eq_getD_getElem?, h2] at hr
    exact v09 hr
   ·cases h
  ·cases h
 | _ => simp [conv] at h
theorem y9a (k : Rel Pr w0 stk s tm w G) {t : Ty} {v : LV} {ys : List t.den} {x : Value} (h : w1t s t v = some ys) (hv : LRd w G.I G.h v [x]) :
  Src P w t.sz (Rd w G.I t) ys x := by
 unfold w1t at h
 split at h
 ·rename_i b
  obtain ⟨e, rfl⟩ := z2w h
  cases e
  have : x = .string b := by simpa [LRd, Rd] using hv
  subst this
  refine ⟨b.data.toList.map fun c => Value.int .u8 (c.toNat : Int), by simp [Ty.sz], ?_, ?_, fun w' => ?_, fun w' m _ hm => ?_⟩
  ·intro c hc
   obtain ⟨d, _, rfl⟩ := List.mem_map.1 hc
   rfl
  ·intro i y hy
   show _ = [Value.int .u8 y]
   simp only [Ty.sz, Nat.mul_one]
   rw [List.getElem?_map] at hy
   simp only [Option.map_eq_some_iff] at hy
   obtain ⟨c, hc, rfl⟩ := hy
   have hi := (List.getElem?_eq_some_iff.1 hc).1
   rw [List.take_one, List.head?_drop, List.getElem?_map, hc]
   rfl
  ·simp only [Builtin.lenOf, Sem.run_pure, List.length_map, Array.length_toList]; rfl
  ·simp only [Ty.sz, Nat.mul_one, Builtin.firstCells, Sem.run_pure]
   congr 1
   simp only [List.length_map] at hm
   have hd : (b.extract 0 m).data = b.data.extract 0 m := by simp [ByteArray.data_extract]
   rw [hd]
   apply Array.ext'
   simp
 ·split at h
  ·cases h
  ·rename_i hg
   exact wq7 k (by simpa using hg) h hv
end
end Vm
/- What append does. -/
namespace Vm
open Go
section
variable {ρ : Type} {P : Program} {E : Env} {Pr : Nat -> Prop} {w0 : St} {w : World} {stk : List (Array Value)} {s : MS} {a : Act} {G : Gh} {o : Oper} {Q : Exit -> Act -> World -> Prop} {K : AV -> MS -> Option ρ} {r : ρ} {tm : Array Value}
theorem w2f (hE : EOk P E) {t : TypeId} (h : w2e E t = true) : (∃ e, P.underlying t = some (.slice e)) \/ P.underlying t = some .string := by
 unfold w2e at h
 split at h
 ·rename_i ti hti
  obtain ⟨_, ⟨d, hd, _, hm⟩, _, _⟩ := hE.te t ti hti
  split at h
  ·rename_i e hk
   rw [hk] at hm
   exact .inl ⟨e, by rw [hd, hm.1]⟩
  ·rename_i hk
   rw [hk] at hm
   have h : ti.ty = .str := by simpa using h
   rw [h] at hm
   simp only at hm
   exact .inr (by rw [hd, hm])
  ·cases h
 ·cases h
theorem w15 {α : Type} {R : α -> List Value -> Prop} {sz : Nat} {xs ys : List α} {cs ds es : List Value} (hl : cs.length = xs.length * sz) (hd : ds.length = ys.length * sz)
  (h1 : ∀ (i : Nat) (x : α), xs[i]? = some x -> R x ((cs.drop (i * sz)).take sz)) (h2 : ∀ (i : Nat) (x : α), ys[i]? = some x -> R x ((ds.drop (i * sz)).take sz)) :
  ∀ (i : Nat) (x : α), (xs ++ ys)[i]? = some x -> R x (((cs ++ ds ++ es).drop (i * sz)).take sz) := by
 intro i x hx
 by_cases hi : i < xs.length
 ·rw [List.getElem?_append_left hi] at hx
  have hin : i * sz + sz <= xs.length * sz := by rw [<- Nat.succ_mul]; exact Nat.mul_le_mul_right _ hi
  have := h1 i x hx
  rw [List.append_assoc, List.drop_append_of_le_length (by omega), List.take_append_of_le_length (by simp; omega)]
  exact this
 ·rw [List.getElem?_append_right (by omega)] at hx
  have hj : i - xs.length < ys.length := (List.getElem?_eq_some_iff.1 hx).1
  have hin : (i - xs.length) * sz + sz <= ys.length * sz := by rw [<- Nat.succ_mul]; exact Nat.mul_le_mul_right _ hj
  have he : i * sz = xs.length * sz + (i - xs.length) * sz := by rw [<- Nat.add_mul]; congr 1; omega
  have := h2 _ x hx
  rw [List.append_assoc, List.drop_append, List.drop_of_length_le (by omega), List.nil_append, show i * sz - cs.length = (i - xs.length) * sz by omega,
    List.drop_append_of_le_length (by omega), List.take_append_of_le_length (by simp; omega)]
  exact this
theorem run_askRoom (n : Nat) (w : World) : (askRoom n).run P w = .ok () w := by
 unfold askRoom
 split <;> simp [mark, Sem.run]
theorem yt3 (hE : EOk P E) {ts : Array TypeId} {t t' e ty : TypeId} {te : TI} (h0 : ts[0]? = some t) (h1 : ts[1]? = some t') (hk : E.kd? t = some (.slice e)) (hte : E.ti e = some te)
  (hr : w2e E t' = true) {α : Type} {R : α -> List Value -> Prop} {A : Option Addr} {n cap : Nat} {x : Value} {old ys : List α} (hA : Src P w te.ty.sz R old (.slice A n cap)) (hold : old.length = n)
  (hx : Src P w te.ty.sz R ys x) (hb : te.bytes ≠ 0) (hfit : (n + ys.length) * te.bytes <= 140737488355328) :
  ∃ cs : List Value, cs.length = ys.length * te.ty.sz /\ (∀ c ∈ cs, cell1 c = true) /\ (∀ (i : Nat) (y : α), ys[i]? = some y -> R y ((cs.drop (i * te.ty.sz)).take te.ty.sz)) /\
   ((n + ys.length <= cap /\ (Builtin.append_ ts ty #[.slice A n cap, x]).run P w = ((match (generalizing := false) A with
     | none => pure ()
     | some a => storeCells (a.add (n * te.ty.sz)) cs : Sem Unit).run P w).andThen fun _ w => .ok (.slice A (n + ys.length) cap) w) \/
   (cap < n + ys.length /\ ∃ (D : Array Value) (nc : Nat), n + ys.length <= nc /\ D.size = nc * te.ty.sz /\ (∀ (i : Nat) (y : α), (old ++ ys)[i]? = some y -> R y ((D.toList.drop (i * te.ty.sz)).take te.ty.sz)) /\
     (Builtin.append_ ts ty #[.slice A n cap, x]).run P w = .ok (.slice (some ⟨w.heap.size, 0, none⟩) (n + ys.length) nc) (push w.drew (.cells D e)))) := by
 obtain ⟨cs, g1, g2, g3, g4, g5⟩ := hx
 refine ⟨cs, g1, g2, g3, ?_⟩
 have hu := z67 hE hk
 have hs : E.sz e = some te.ty.sz := by simp [Env.sz, Env.ty?, hte]
 have hc5 : ∀ w', w'.heap = w.heap -> (Builtin.firstCells te.ty.sz ys.length x).run P w' = .ok cs.toArray w' := fun w' hw => by
  rw [g5 w' _ hw (Nat.le_refl _), List.take_of_length_le (by rw [g1]; exact Nat.le_refl _)]
 obtain ⟨⟨ii, hi1, hi2, hi3, z, hz, _, hzr, _⟩, _, _, _⟩ := hE.te e te hte
 have hzl : z.cells.size = te.ty.sz := by
  have := (hzr w (fun _ => True)).length
  simpa using this
 by_cases hle : n + ys.length <= cap
 ·left
  refine ⟨hle, ?_⟩
  unfold Builtin.append_
  rcases w2f hE hr with ⟨e', hd⟩ | hd <;>
  ·simp only [List.getElem?_toArray, List.getElem?_cons_zero, List.getElem?_cons_succ, h0, h1, Sem.run_bind, z2q hu, Result.andThen_ok, zg6 hE hs, z2q hd, Sem.run_pure, Bool.false_eq_true, if_false, g4, if_pos hle,
     Bool.not_false, if_true, hc5 w rfl]
   cases A with
   | none => simp [Sem.run_pure]
   | some a => simp only [Sem.run_bind, Sem.run_pure]
 ·right
  refine ⟨by omega, ?_⟩
  obtain ⟨ds, k1, k2, k3, k4, k5⟩ := hA
  have hold5 : ∀ w', w'.heap = w.heap -> (Builtin.firstCells te.ty.sz n (.slice A n cap)).run P w' = .ok ds.toArray w' := fun w' hw => by
   rw [k5 w' _ hw (by omega), List.take_of_length_le (by rw [k1, hold]; exact Nat.le_refl _)]
  have h48 : ¬ (Builtin.nextslicecap (n + ys.length) cap * ii.bytes > 281474976710656) := by
   rw [hi3]; exact Nat.not_lt.2 (growslice_fits (by omega) hfit)
  have hb' : ¬ (ii.bytes = 0) := by rw [hi3]; exact hb
  have hcut : n + ys.length <= (Question.appendCap (n + ys.length) cap e).cut (w.tape w.drawn (.appendCap (n + ys.length) cap e)) := by
   simp [Question.cut]
  refine ⟨ds.toArray ++ cs.toArray ++ Builtin.zeroCells z.cells ((Question.appendCap (n + ys.length) cap e).cut (w.tape w.drawn (.appendCap (n + ys.length) cap e)) - (n + ys.length)), _, hcut, ?_, ?_, ?_⟩
  ·simp only [Array.size_append, List.size_toArray, Builtin.zeroCells, Array.size_map, Array.size_range, hzl, k1, g1, hold, <- Nat.add_mul]
   congr 1; omega
  ·intro i y hy
   have := w15 (es := (Builtin.zeroCells z.cells ((Question.appendCap (n + ys.length) cap e).cut (w.tape w.drawn (.appendCap (n + ys.length) cap e)) - (n + ys.length))).toList) k1 g1 k3 g3 i y hy
   simpa using this
  ·have hb2 : ¬ ((n : Int) + (ys.length : Int) > IntKind.i64.max /\ (false = true \/ ii.bytes = 0)) := by simp [hb']
   have h48' : ¬ (281474976710656 < Builtin.nextslicecap (n + ys.length) cap * ii.bytes) := h48
   unfold Builtin.append_
   rcases w2f hE hr with ⟨e', hd⟩ | hd <;>
   ·have h1' := hold5 w.drew rfl
    have h2' := hc5 w.drew rfl
    simp [h0, h1, z2q hu, zg6 hE hs, z2q hd, g4, hle, typeInfo, hi1, hb', h48', hz, zeroValue, Question.forced, h1', h2', newRow]
    rw [show (ds ++ cs).toArray = ds.toArray ++ cs.toArray by simp, Array.append_assoc]; rfl
end
end Vm
/- Matrices: literals of one row, and rows laid behind others. -/
namespace Vm
open Go
def HdR (v : Value) (cs : List Value) : Prop := cs = [v] /\ cell1 v = true
structure MV (w : World) (I : Nat -> Prop) (t : Ty) (xs : List (List t.den)) (A : Option Addr) (cap : Nat) (hs : List Value) (rb : Nat -> List Nat) (B : List Nat) : Prop where
 len : hs.length = xs.length
 rows : ∀ (i : Nat) (x : List t.den), xs[i]? = some x -> RowOb w I t x (hs.getD i undef) (rb i)
 inB : ∀ i, i < xs.length -> ∀ b, b ∈ rb i -> b ∈ B
 dis : ∀ i j, i < xs.length -> j < xs.length -> i ≠ j -> ∀ b, b ∈ rb i -> b ∉ rb j
 mem : (A = none /\ cap = 0 /\ xs = []) \/ ∃ b C T fz, A = some ⟨b, 0, none⟩ /\ xs.length <= cap /\ cap <= C.size /\ w.heap[b]? = some (.cells C T fz) /\ yq5 C fz /\ b ∈ B /\ (∀ i, i < xs.length -> b ∉ rb i) /\
  ∀ i, i < xs.length -> C.toList.getD i undef = hs.getD i undef
section
variable {ρ : Type} {P : Program} {E : Env} {Pr : Nat -> Prop} {w0 : St} {w : World} {stk : List (Array Value)} {s : MS} {a : Act} {G : Gh} {o : Oper} {Q : Exit -> Act -> World -> Prop} {K : AV -> MS -> Option ρ} {r : ρ} {tm : Array Value}
theorem LRd.blank {w : World} {I : Nat -> Prop} {h : Hv} (id : Nat) {v : LV} {cs : List Value} (k : LRd w I h v cs) : LRd w I h (w9u id v) cs := by
 cases v with
 | own i =>
  show LRd w I h (if i = id then .val .opq () else .own i) cs
  by_cases e : i = id
  ·rw [if_pos e]
   obtain ⟨A, n, c, _, rfl⟩ := k
   exact ⟨_, rfl, rfl⟩
  ·rw [if_neg e]; exact k
 | pre i m =>
  show LRd w I h (if i = id then .val .opq () else .pre i m) cs
  by_cases e : i = id
  ·rw [if_pos e]
   obtain ⟨A, n, c, _, _, rfl⟩ := k
   exact ⟨_, rfl, rfl⟩
  ·rw [if_neg e]; exact k
 | grd i =>
  show LRd w I h (if i = id then .val .opq () else .grd i) cs
  by_cases e : i = id
  ·rw [if_pos e]
   obtain ⟨A, n, c, R, _, rfl⟩ := k
   exact ⟨_, rfl, rfl⟩
  ·rw [if_neg e]; exact k
 | _ => exact k
theorem y3p {α : Type} {R : α -> List Value -> Prop} {f : α -> α} (hf : ∀ x cs, R x cs -> R (f x) cs) : ∀ {xs : List α} {cs}, ArRd R xs cs -> ArRd R (xs.map f) cs
 | [], _, k => k
 | _ :: _, _, ⟨c1, c2, e, r, k⟩ => ⟨c1, c2, e, hf _ _ r, y3p hf k⟩
theorem y0a (s : MS) (id i : Nat) : (s.blank id).obj i = (s.obj i).map (Obj.blank id) := by
 unfold MS.obj MS.blank
 simp only [z59 (fun o : Option Obj => o.map (Obj.blank id))]
 cases look i s.objs with
 | none => rfl
 | some o => cases o <;> rfl
theorem Rel.blank (k : Rel Pr w0 stk s tm w G) (id : Nat) : Rel Pr w0 stk (s.blank id) tm w G where
 keep := k.keep
 old := k.old
 isz := k.isz
 ob := fun i o h => by
  rw [y0a] at h
  obtain ⟨o', h', rfl⟩ := Option.map_eq_some_iff.1 h
  have := k.ob i o' h'
  cases o' with
  | box l =>
   obtain ⟨b, C, E, fz, h1, h2, h3, h4, h5⟩ := this
   exact ⟨b, C, E, fz, h1, h2, h3, h4, y3p (fun _ _ => LRd.blank id) h5⟩
  | _ => exact this
 sep := fun i o b h => by
  rw [y0a] at h
  obtain ⟨o', h', rfl⟩ := Option.map_eq_some_iff.1 h
  exact k.sep i o' b h'
 dis := fun i i' o o' b h h' => by
  rw [y0a] at h h'
  obtain ⟨q, hq, rfl⟩ := Option.map_eq_some_iff.1 h
  obtain ⟨q', hq', rfl⟩ := Option.map_eq_some_iff.1 h'
  exact k.dis i i' q q' b hq hq'
 slots := k.slots
 saved := k.saved
 pin := k.pin
theorem ARd.mapL {w : World} {I : Nat -> Prop} {h : Hv} {f : LV -> LV} (hf : ∀ v cs, LRd w I h v cs -> LRd w I h (f v) cs) {v : AV} {x : Value} (k : ARd w I h v x) : ARd w I h (v.mapL f) x := by
 cases v with
 | undef => trivial
 | one v => exact ⟨k.1, hf _ _ k.2⟩
 | agg l => obtain ⟨cs, e, k⟩ := k; exact ⟨cs, e, y3p hf k⟩
 | tup l =>
  obtain ⟨vs, e, hl, k⟩ := k
  refine ⟨vs, e, by simpa using hl, fun i p y hp hy => ?_⟩
  simp only [List.getElem?_map] at hp
  obtain ⟨q, hq, rfl⟩ := Option.map_eq_some_iff.1 hp
  have := k i q y hq hy
  cases hb : q.1 <;> simp only [hb, if_true, if_false, Bool.false_eq_true] at this ⊢
  ·exact ⟨this.1, y3p hf this.2⟩
  ·obtain ⟨cs, e, k⟩ := this; exact ⟨cs, e, y3p hf k⟩
theorem SlotsRd.mapL {f : LV -> LV} (hf : ∀ v cs, LRd w G.I G.h v cs -> LRd w G.I G.h (f v) cs) {l : List (Nat × AV)} (k : SlotsRd w G l tm) : SlotsRd w G (l.map fun p => (p.1, p.2.mapL f)) tm := fun t v hv => by
 rw [z59 (fun v : AV => v.mapL f)] at hv
 obtain ⟨v', hv', rfl⟩ := Option.map_eq_some_iff.1 hv
 exact (k t v' hv').mapL hf
theorem SavedRd.mapL {f : LV -> LV} (hf : ∀ v cs, LRd w G.I G.h v cs -> LRd w G.I G.h (f v) cs) : ∀ {l : List (List (Nat × AV))} {tms : List (Array Value)}, SavedRd w G l tms -> SavedRd w G (l.map fun l => l.map fun p => (p.1, p.2.mapL f)) tms
 | [], [], _ => trivial
 | _ :: _, _ :: _, ⟨h, k⟩ => ⟨SlotsRd.mapL hf h, SavedRd.mapL hf k⟩
 | [], _ :: _, h => h.elim
 | _ :: _, [], h => h.elim
theorem yy5 (s : MS) (f : LV -> LV) (i : Nat) : (s.mapL f).obj i = (s.obj i).map (Obj.mapL f) := by
 unfold MS.obj MS.mapL
 simp only [z59 (fun o : Option Obj => o.map (Obj.mapL f))]
 cases look i s.objs with
 | none => rfl
 | some o => cases o <;> rfl
theorem Rel.mapL (k : Rel Pr w0 stk s tm w G) {f : LV -> LV} (hf : ∀ v cs, LRd w G.I G.h v cs -> LRd w G.I G.h (f v) cs) : Rel Pr w0 stk (s.mapL f) tm w G where
 keep := k.keep
 old := k.old
 isz := k.isz
 ob := fun i o h => by
  rw [yy5] at h
  obtain ⟨o', h', rfl⟩ := Option.map_eq_some_iff.1 h
  have := k.ob i o' h'
  cases o' with
  | box l =>
   obtain ⟨b, C, E, fz, h1, h2, h3, h4, h5⟩ := this
   exact ⟨b, C, E, fz, h1, h2, h3, h4, y3p hf h5⟩
  | clos g l =>
   obtain ⟨cs, h1, h2, h3, h4⟩ := this
   refine ⟨cs, h1, h2, by simpa using h3, fun i v x hv hx => ?_⟩
   simp only [List.getElem?_map] at hv
   obtain ⟨v', hv', rfl⟩ := Option.map_eq_some_iff.1 hv
   exact ⟨(h4 i v' x hv' hx).1, hf _ _ (h4 i v' x hv' hx).2⟩
  | _ => exact this
 sep := fun i o b h => by
  rw [yy5] at h
  obtain ⟨o', h', rfl⟩ := Option.map_eq_some_iff.1 h
  exact k.sep i o' b h'
 dis := fun i i' o o' b h h' => by
  rw [yy5] at h h'
  obtain ⟨q, hq, rfl⟩ := Option.map_eq_some_iff.1 h
  obtain ⟨q', hq', rfl⟩ := Option.map_eq_some_iff.1 h'
  exact k.dis i i' q q' b hq hq'
 slots := k.slots.mapL hf
 saved := k.saved.mapL hf
 pin := k.pin
theorem wp5 (s : MS) (id i : Nat) : (s.drop id).obj i = if i = id then none else s.obj i := by
 unfold MS.obj MS.drop
 by_cases e : i = id
 ·subst e; simp [z1m]
 ·simp [z16 _ _ e, e]
theorem z8q {id i : Nat} {o : Obj} (h : (s.drop id).obj i = some o) : i ≠ id /\ s.obj i = some o := by
 rw [wp5] at h
 by_cases e : i = id
 ·rw [if_pos e] at h; cases h
 ·rw [if_neg e] at h; exact ⟨e, h⟩
theorem Rel.drop (k : Rel Pr w0 stk s tm w G) (id : Nat) : Rel Pr w0 stk (s.drop id) tm w G where
 keep := k.keep
 old := k.old
 isz := k.isz
 ob := fun i o h => k.ob i o (z8q h).2
 sep := fun i o b h => k.sep i o b (z8q h).2
 dis := fun i i' o o' b h h' => k.dis i i' o o' b (z8q h).2 (z8q h').2
 slots := k.slots
 saved := k.saved
 pin := k.pin
theorem Rel.lay (k : Rel Pr w0 stk s tm w G) {nm R : Nat} {ob : Obj} {v : Value} {bs : List Nat} (hob : Ob w (G.at nm v bs) nm ob) (hs : ∀ b, b ∈ bs -> ¬ Pr b /\ ¬ G.I b /\ b < w.heap.size)
  (hd : ∀ b, b ∈ bs -> ∀ id' o', id' ≠ R -> s.obj id' = some o' -> b ∉ G.bs id') {f : LV -> LV} (hne : R ≠ nm) (hf : ∀ u cs, LRd w G.I (G.at nm v bs).h u cs -> LRd w G.I (G.at nm v bs).h (f u) cs) :
  Rel Pr w0 stk ((((((s.kill nm).drop R).upd nm ob).unpin nm).mapL f).kill R) tm w (G.at nm v bs) := by
 have hu : Unnamed ((s.kill nm).drop R) nm := by
  have := z47 s nm
  exact ⟨this.slots, fun t o h ht => this.objs t o (z8q h).2 ht, this.saved⟩
 have k1 := ((k.kill nm).drop R).add hu hob hs fun b hb id' o' _ h' => by
  obtain ⟨h1, h2⟩ := z8q h'
  exact hd b hb id' o' h1 (z0w h2).2.1
 exact (k1.mapL hf).kill R
theorem Rel.lay' (k : Rel Pr w0 stk s tm w G) {nm R : Nat} {ob : Obj} {v : Value} {bs : List Nat} (hob : Ob w (G.at nm v bs) nm ob) (hs : ∀ b, b ∈ bs -> ¬ Pr b /\ ¬ G.I b /\ b < w.heap.size)
  (hd : ∀ b, b ∈ bs -> ∀ id' o', id' ≠ R -> s.obj id' = some o' -> b ∉ G.bs id') : Rel Pr w0 stk ((s.kill R).new nm ob) tm w (G.at nm v bs) :=
 ((k.kill R).kill nm).add (z47 _ _) hob hs fun b hb id' o' _ h' => by
  have h2 := (z0w h').2.1
  exact hd b hb id' o' (z0w h2).1 (z0w h2).2.1
theorem wp4 {id : Nat} {t : Ty} {xs : List (List t.den)} (k : Ob w G id (.mat t xs none)) : ∃ A cap, ∃ hs : Array Value, ∃ rb, G.h id = some (.tuple #[.slice A xs.length cap, .agg hs]) /\ MV w G.I t xs A cap hs.toList rb (G.bs id) := by
 have hg : ∀ (hs : Array Value) (i : Nat), hs.toList.getD i undef = hs.getD i undef := fun hs i => by
  rw [List.getD_eq_getElem?_getD, Array.getElem?_toList, Array.getD_eq_getD_getElem?]
 rcases k with ⟨k1, rfl, k3, _⟩ | ⟨b, c, C, E, fz, rb, hs, k1, k2, k3, k4, k5, k6, k7, k8, k9, k10, k11, k12⟩
 ·exact ⟨none, 0, #[], fun _ => [], k1, rfl, (fun i x hx => by simp at hx), (fun i hi => by simp at hi), (fun i j hi => by simp at hi), .inl ⟨rfl, rfl, rfl⟩⟩
 ·refine ⟨_, c, hs, rb, k1, by rw [Array.length_toList]; exact k10, fun i x hx => by rw [hg]; exact k9 i x hx, fun i hi b' hb' => (k7 i hi b' hb').1, k8, .inr ⟨b, C, E, fz, rfl, k2, k3, k4, k5, k6, fun i hi hb => (k7 i hi b hb).2 rfl, fun i hi => ?_⟩⟩
  exact (k11 i hi).trans (hg hs i).symm
theorem wz5 {I : Nat -> Prop} {t : Ty} {xs : List (List t.den)} {A : Option Addr} {cap : Nat} {hs : List Value} {rb : Nat -> List Nat} {B : List Nat} (k : MV w I t xs A cap hs rb B) {i : Nat} (hi : i < xs.length) : hs[i]? = some (hs.getD i undef) /\ cell1 (hs.getD i undef) = true := by
 refine ⟨?_, (k.rows i _ (getD_lt hi)).cell.1⟩
 rw [List.getD_eq_getElem?_getD, List.getElem?_eq_getElem (by rw [k.len]; exact hi)]; rfl
theorem wt8 {I : Nat -> Prop} {t : Ty} {xs : List (List t.den)} {A : Option Addr} {cap : Nat} {hs : List Value} {rb : Nat -> List Nat} {B : List Nat} (k : MV w I t xs A cap hs rb B) : Src P w 1 HdR hs (.slice A xs.length cap) := by
 have hl := k.len
 rcases k.mem with ⟨rfl, rfl, rfl⟩ | ⟨b, C, T, fz, rfl, k1, k2, k3, k4, k5, k6, k7⟩
 ·have : hs = [] := List.length_eq_zero_iff.1 hl
  subst this
  exact zx1
 ·rw [<- hl]
  refine y3x (off := 0) k3 (by omega) (fun x cs h c hc => by
    obtain ⟨rfl, h2⟩ := h
    rw [List.mem_singleton] at hc
    rw [hc]; exact h2) fun i y hy => ?_
  have hi : i < xs.length := by rw [<- hl]; exact (List.getElem?_eq_some_iff.1 hy).1
  obtain ⟨c1, c2⟩ := wz5 k hi
  rw [c1, Option.some.injEq] at hy
  subst hy
  rw [Nat.zero_add, Nat.mul_one, one_cell (by omega), k7 i hi]
  exact ⟨rfl, c2⟩
theorem wz6 {I : Nat -> Prop} {t : Ty} {xs : List (List t.den)} {A : Option Addr} {cap : Nat} {hs : List Value} {rb : Nat -> List Nat} {B : List Nat} (k : MV w I t xs A cap hs rb B) {n : Nat} (hn : n <= xs.length) : MV w I t (xs.take n) A cap (hs.take n) rb B := by
 have hl : (xs.take n).length = n := by rw [List.length_take]; omega
 have hg : ∀ i, i < n -> (hs.take n).getD i undef = hs.getD i undef := fun i hi => by rw [List.getD_eq_getElem?_getD, List.getD_eq_getElem?_getD, List.getElem?_take, if_pos hi]
 refine ⟨by rw [hl, List.length_take, k.len]; omega, fun i x hx => ?_, fun i hi => k.inB i (by omega), fun i j hi hj => k.dis i j (by omega) (by omega), ?_⟩
 ·have hi : i < n := by have := (List.getElem?_eq_some_iff.1 hx).1; omega
  rw [List.getElem?_take, if_pos hi] at hx
  rw [hg i hi]
  exact k.rows i x hx
 ·rcases k.mem with ⟨h1, h2, h3⟩ | ⟨b, C, T, fz, h1, h2, h3, h4, h5, h6, h7, h8⟩
  ·exact .inl ⟨h1, h2, by rw [h3]; simp⟩
  ·exact .inr ⟨b, C, T, fz, h1, by omega, h3, h4, h5, h6, fun i hi => h7 i (by omega), fun i hi => by rw [hg i (by omega)]; exact h8 i (by omega)⟩
theorem wy1 {hs cs : List Value} (h1 : cs.length = hs.length) (h2 : ∀ (i : Nat) (y : Value), hs[i]? = some y -> HdR y ((cs.drop (i * 1)).take 1)) : cs = hs := by
 refine List.ext_getElem h1 fun i hi1 hi2 => ?_
 have := (h2 i _ (List.getElem?_eq_getElem hi2)).1
 rw [Nat.mul_one, List.drop_eq_getElem_cons hi1, List.take_succ_cons, List.take_zero] at this
 simpa using this
theorem wf7 {w' : World} (k : Rel Pr w0 stk s tm w' G) {R : Nat} {t : Ty} {xs ys : List (List t.den)} {A1 A2 : Option Addr} {c1 c2 nm : Nat} {hs1 hs2 : List Value} {rb1 rb2 : Nat -> List Nat} {B1 B2 : List Nat} (m1 : MV w G.I t xs A1 c1 hs1 rb1 B1) (m2 : MV w G.I t ys A2 c2 hs2 rb2 B2)
  (hB : ∀ b, b ∈ B1 -> b ∉ B2) {b cap : Nat} {C : Array Value} {T : TypeId} {fz : Nat × Nat} (hb : w'.heap[b]? = some (.cells C T fz)) (hf : yq5 C fz) (hcap : xs.length + ys.length <= cap) (hC : cap <= C.size)
  (hw : ∀ q, q ∈ B1 \/ q ∈ B2 \/ G.I q -> q ≠ b -> w'.heap[q]? = w.heap[q]?) (hbI : ¬ G.I b) (hb1 : ∀ i, i < xs.length -> b ∉ rb1 i) (hb2 : ∀ i, i < ys.length -> b ∉ rb2 i)
  (hg : ∀ i, i < xs.length + ys.length -> C.toList.getD i undef = (hs1 ++ hs2).getD i undef) {bs : List Nat} (hbs : b ∈ bs) (hbs1 : ∀ q, q ∈ B1 \/ q ∈ B2 -> q ∈ bs)
  (hsep : ∀ q, q ∈ bs -> ¬ Pr q /\ ¬ G.I q /\ q < w'.heap.size /\ ∀ id' o', id' ≠ R -> s.obj id' = some o' -> q ∉ G.bs id') {o2 : Value} (h2 : G.h R = some (.tuple #[o2, .agg hs2.toArray])) :
  Rel Pr w0 stk (if R = nm then (s.kill R).new nm (.mat t (xs ++ ys) none) else (((((s.kill nm).drop R).upd nm (.mat t (xs ++ ys) none)).unpin nm).mapL (LV.mvRow R nm t xs.length)).kill R) tm w' (G.at nm (.tuple #[.slice (some ⟨b, 0, none⟩) (xs.length + ys.length) cap, .agg (hs1 ++ hs2).toArray]) bs) := by
 have hl : (xs ++ ys).length = xs.length + ys.length := List.length_append
 have l1 := m1.len
 have l2 := m2.len
 have hIw : ∀ q, G.I q -> w'.heap[q]? = w.heap[q]? := fun q hq => hw q (.inr (.inr hq)) fun e => hbI (e ▸ hq)
 have hob : Ob w' (G.at nm (.tuple #[.slice (some ⟨b, 0, none⟩) (xs.length + ys.length) cap, .agg (hs1 ++ hs2).toArray]) bs) nm (.mat t (xs ++ ys) none) := by
  refine .inr ⟨b, cap, C, T, fz, fun i => if i < xs.length then rb1 i else rb2 (i - xs.length), (hs1 ++ hs2).toArray, by rw [hl]; exact y1x .., by rw [hl]; exact hcap, hC, hb, hf, by rw [zu0]; exact hbs, ?_, ?_, ?_, ?_, ?_, fun _ _ e => by cases e⟩
  ·intro i hi q hq
   rw [hl] at hi
   have hq : q ∈ (if i < xs.length then rb1 i else rb2 (i - xs.length)) := hq
   rw [zu0]
   by_cases h : i < xs.length
   ·rw [if_pos h] at hq
    exact ⟨hbs1 q (.inl (m1.inB i h q hq)), fun e => hb1 i h (e ▸ hq)⟩
   ·rw [if_neg h] at hq
    exact ⟨hbs1 q (.inr (m2.inB _ (by omega) q hq)), fun e => hb2 _ (by omega) (e ▸ hq)⟩
  ·intro i j hi hj hij q hq hq'
   rw [hl] at hi hj
   have hq : q ∈ (if i < xs.length then rb1 i else rb2 (i - xs.length)) := hq
   have hq' : q ∈ (if j < xs.length then rb1 j else rb2 (j - xs.length)) := hq'
   by_cases h : i < xs.length <;> by_cases h' : j < xs.length
   ·rw [if_pos h] at hq; rw [if_pos h'] at hq'; exact m1.dis i j h h' hij q hq hq'
   ·rw [if_pos h] at hq; rw [if_neg h'] at hq'; exact hB q (m1.inB i h q hq) (m2.inB _ (by omega) q hq')
   ·rw [if_neg h] at hq; rw [if_pos h'] at hq'; exact hB q (m1.inB j h' q hq') (m2.inB _ (by omega) q hq)
   ·rw [if_neg h] at hq; rw [if_neg h'] at hq'; exact m2.dis _ _ (by omega) (by omega) (by omega) q hq hq'
  ·intro i x hx
   show RowOb w' G.I t x ((hs1 ++ hs2).toArray.getD i undef) (if i < xs.length then rb1 i else rb2 (i - xs.length))
   have hg' : (hs1 ++ hs2).toArray.getD i undef = (hs1 ++ hs2).getD i undef := by
    rw [Array.getD_eq_getD_getElem?, List.getD_eq_getElem?_getD, List.getElem?_toArray]
   rw [hg', List.getD_eq_getElem?_getD]
   by_cases h : i < xs.length
   ·rw [if_pos h, List.getElem?_append_left (by omega), <- List.getD_eq_getElem?_getD]
    rw [List.getElem?_append_left h] at hx
    exact (m1.rows i x hx).mono hIw (fun _ h => h) fun q hq => hw q (.inl (m1.inB i h q hq)) fun e => hb1 i h (e ▸ hq)
   ·have hi := (List.getElem?_eq_some_iff.1 hx).1
    rw [hl] at hi
    rw [if_neg h, List.getElem?_append_right (by omega), l1, <- List.getD_eq_getElem?_getD]
    rw [List.getElem?_append_right (by omega)] at hx
    exact (m2.rows _ x hx).mono hIw (fun _ h => h) fun q hq => hw q (.inr (.inl (m2.inB _ (by omega) q hq))) fun e => hb2 _ (by omega) (e ▸ hq)
  ·rw [List.size_toArray, List.length_append, hl, l1, l2]
  ·intro i hi
   rw [hl] at hi
   show _ = (hs1 ++ hs2).toArray.getD i undef
   rw [hg i hi, Array.getD_eq_getD_getElem?, List.getD_eq_getElem?_getD, List.getElem?_toArray]
 have hs : ∀ q, q ∈ bs -> ¬ Pr q /\ ¬ G.I q /\ q < w'.heap.size := fun q hq => ⟨(hsep q hq).1, (hsep q hq).2.1, (hsep q hq).2.2.1⟩
 by_cases e : R = nm
 ·rw [if_pos e]
  exact k.lay' hob hs fun q hq => (hsep q hq).2.2.2
 ·rw [if_neg e]
  refine k.lay hob hs (fun q hq => (hsep q hq).2.2.2) e fun u cs hu => ?_
  cases u with
  | row i u' j =>
   show LRd w' G.I _ (if i = R /\ u' = t /\ 0 <= j then .row nm t ((xs.length + j.toNat : Nat) : Int) else .row i u' j) cs
   by_cases c : i = R /\ u' = t /\ 0 <= j
   ·rw [if_pos c]
    obtain ⟨rfl, rfl, hj⟩ := c
    obtain ⟨_, o', hs', A, n, cc, e1, e2, rfl⟩ := hu
    rw [show (G.at nm _ bs).h i = G.h i by simp [Gh.at, e], h2] at e1
    simp only [Option.some.injEq, Value.tuple.injEq, Array.mk.injEq, List.cons.injEq, Value.agg.injEq, and_true] at e1
    obtain ⟨rfl, rfl⟩ := e1
    refine ⟨Int.natCast_nonneg _, _, _, A, n, cc, y1x .., ?_, rfl⟩
    rw [Int.toNat_natCast, List.getElem?_toArray, List.getElem?_append_right (by omega), l1, Nat.add_sub_cancel_left]
    rw [List.getElem?_toArray] at e2
    exact e2
   ·rw [if_neg c]; exact hu
  | _ => exact hu
theorem yr5 (hE : EOk P E) (hP : ∀ b, Pr b -> b < w0.heap.size) {s' : MS} (k : Rel Pr w0 stk s' a.tmps w G) {c : Call} {x y : Operand} {t t' e : TypeId} {ts : List TypeId} {te : TI} (ho : o.op = .call c) (hc : c.callee = .builtin .append)
  (hx : c.args.toList = [x, y]) (ht : c.argTypes.toList = t :: t' :: ts) (hk : E.kd? t = some (.slice e)) (hte : E.ti e = some te) (hr : w2e E t' = true) {u : Ty} (hty : te.ty = .slice u) {xs ys : List (List u.den)} {A1 A2 : Option Addr} {c1 c2 nm id2 : Nat}
  {hs1 hs2 : List Value} {rb1 rb2 : Nat -> List Nat} {B1 B2 : List Nat} (hex : a.eval x = .slice A1 xs.length c1) (hey : a.eval y = .slice A2 ys.length c2) (m1 : MV w G.I u xs A1 c1 hs1 rb1 B1) (m2 : MV w G.I u ys A2 c2 hs2 rb2 B2)
  (hB : ∀ b, b ∈ B1 -> b ∉ B2) (hown : ∀ q, q ∈ B1 \/ q ∈ B2 -> ¬ Pr q /\ ¬ G.I q /\ q < w.heap.size /\ ∀ id' o', id' ≠ id2 -> s'.obj id' = some o' -> q ∉ G.bs id') (hb0 : te.bytes ≠ 0) (hb1 : (xs.length + ys.length) * te.bytes <= 140737488355328) (hne : 0 < ys.length)
  (hid2 : ∃ o2, G.h id2 = some (.tuple #[o2, .agg hs2.toArray])) (hbs1 : ∀ b, b ∈ B1 -> b ∉ G.bs id2) (h : y2i s' nm id2 u xs ys (fun r s => K (.one r) s) = some r) : o.wp P a w (zb2 Pr w0 stk o a K r) Q := by
 have h0 : c.argTypes[0]? = some t := by rw [<- Array.getElem?_toList, ht]; rfl
 have h1 : c.argTypes[1]? = some t' := by rw [<- Array.getElem?_toList, ht]; rfl
 have hz : te.ty.sz = 1 := by rw [hty]; rfl
 have l1 := m1.len
 have l2 := m2.len
 have s1 := wt8 (P := P) m1
 have s2 := wt8 (P := P) m2
 obtain ⟨cs, g1, g2, g3, g4⟩ := yt3 (P := P) (w := w) (ty := o.type) hE h0 h1 hk hte hr (R := HdR) (by rw [hz]; exact s1) l1 (by rw [hz]; exact s2) hb0 (by rw [l2]; exact hb1)
 rw [hz] at g1 g3 g4
 rw [Nat.mul_one] at g1
 have hcs := wy1 g1 g3
 subst hcs
 obtain ⟨o2, hid2⟩ := hid2
 have h : K (.one (.grd nm)) (if id2 = nm then (s'.kill id2).new nm (.mat u (xs ++ ys) none) else (((((s'.kill nm).drop id2).upd nm (.mat u (xs ++ ys) none)).unpin nm).mapL (LV.mvRow id2 nm u xs.length)).kill id2) = some r := by
  unfold y2i at h
  split at h
  ·rename_i e; rw [if_pos e]; exact h
  ·rename_i e; rw [if_neg e]; exact h
 have fin : ∀ {w' : World} {b cap : Nat}, (Go.Builtin.append_ c.argTypes o.type #[.slice A1 xs.length c1, .slice A2 ys.length c2]).run P w = .ok (.slice (some ⟨b, 0, none⟩) (xs.length + ys.length) cap) w' ->
   (∃ bs, Rel Pr w0 stk (if id2 = nm then (s'.kill id2).new nm (.mat u (xs ++ ys) none) else (((((s'.kill nm).drop id2).upd nm (.mat u (xs ++ ys) none)).unpin nm).mapL (LV.mvRow id2 nm u xs.length)).kill id2) a.tmps w' (G.at nm (.tuple #[.slice (some ⟨b, 0, none⟩) (xs.length + ys.length) cap, .agg (hs1 ++ cs).toArray]) bs)) -> o.wp P a w (zb2 Pr w0 stk o a K r) Q := by
  rintro w' b cap hrun ⟨bs, k'⟩
  refine z3u (x := .slice (some ⟨b, 0, none⟩) (xs.length + ys.length) cap) (w' := w') (z40 ho hc fun consts => ?_) ⟨.one (.grd nm), _, _, _, rfl, k', ⟨rfl, _, _, _, _, y1x .., rfl⟩, h⟩
  rw [yw0 hx, hex, hey]
  simp only [Go.builtin, Sem.run_bind, hrun, Result.andThen_ok, Sem.run_pure]
 have hgd : ∀ {D : List Value}, (∀ i, i < (hs1 ++ cs).length -> D.getD i undef = (hs1 ++ cs).getD i undef) -> ∀ i, i < xs.length + ys.length -> D.getD i undef = (hs1 ++ cs).getD i undef := fun h i hi => h i (by rw [List.length_append, l1, l2]; exact hi)
 rcases g4 with ⟨hle, hrun⟩ | ⟨hlt, D, nc, f1, f2, f3, hrun⟩
 ·rw [l2] at hle hrun
  rcases m1.mem with ⟨rfl, rfl, rfl⟩ | ⟨b, C, T, fz, rfl, q1, q2, q3, q4, q5, q6, q7⟩
  ·simp only [List.length_nil] at hle; omega
  ·have hlen : xs.length * 1 + cs.length <= C.size := by omega
   have hst := z4t (P := P) q3 q4 hlen g2
   rw [Nat.mul_one] at hst
   have hbw : b < w.heap.size := (Array.getElem?_eq_some_iff.1 q3).1
   obtain ⟨o1, o2, o3, o4⟩ := hown b (.inl q5)
   have k' : Rel Pr w0 stk s' a.tmps (wr w b (y1u C xs.length cs) T fz) G := by
    refine k.mono (I' := G.I) ⟨rfl, rfl, rfl, Nat.le_of_eq wr_size.symm, fun b' hb' => wr_ne (by rintro rfl; exact o1 hb')⟩ (fun b' hb' => wr_ne (by rintro rfl; exact o2 hb')) (fun _ h => h) (fun b' hb' => by rw [wr_size]; exact k.isz b' hb') ?_ k.old
    exact fun id ob b' hob hb' => ⟨wr_ne (by
      rintro rfl
      by_cases e : id = id2
      · subst e; exact hbs1 _ q5 hb'
      · exact o4 id ob e hob hb'), (k.sep id ob b' hob hb').2.1⟩
   have hb2 : ∀ i, i < ys.length -> b ∉ rb2 i := fun i hi hb => hB b q5 (m2.inB i hi b hb)
   refine fin (w' := wr w b (y1u C xs.length cs) T fz) (by rw [hrun]; simp only [Nat.mul_one, addr_add, Nat.zero_add, hst, Result.andThen_ok]) ⟨B1 ++ B2, wf7 k' m1 m2 hB (y0j hbw) (z78 (z3e ..) q4) hle (by rw [z3e]; exact q2) (fun q _ hq => wr_ne hq) o2 q6 hb2 (hgd fun i hi => ?_) (List.mem_append_left _ q5) (fun q hq => List.mem_append.2 hq) (fun q hq => ?_) hid2⟩
   ·rw [zt7 (by omega), List.getD_eq_getElem?_getD, List.getD_eq_getElem?_getD, List.append_assoc]
    have ht1 : (C.toList.take xs.length).length = xs.length := by simp; omega
    by_cases hi1 : i < xs.length
    ·rw [List.getElem?_append_left (by omega), List.getElem?_append_left (by omega), List.getElem?_take, if_pos hi1, <- List.getD_eq_getElem?_getD, <- List.getD_eq_getElem?_getD, q7 i hi1]
    ·rw [List.length_append] at hi
     rw [List.getElem?_append_right (by omega), List.getElem?_append_left (by omega), List.getElem?_append_right (by omega), ht1, l1]
   ·have := hown q (List.mem_append.1 hq)
    exact ⟨this.1, this.2.1, by rw [wr_size]; exact this.2.2.1, this.2.2.2⟩
 ·rw [l2] at hlt f1 hrun
  have hg : Grow w (push w.drew (.cells D e)) := ⟨rfl, rfl, rfl, by rw [z89]; exact Nat.le_succ _, fun b hb => y3e (w := w.drew) hb⟩
  have hPw : ∀ b, Pr b -> b < w.heap.size := fun b hb => Nat.lt_of_lt_of_le (hP b hb) k.keep.size
  have k' : Rel Pr w0 stk s' a.tmps (push w.drew (.cells D e)) G :=
   k.grow (I' := G.I) hPw hg (fun _ h => h) (fun b hb => Nat.lt_of_lt_of_le (k.isz b hb) hg.size) fun b hb => .inl hb
  have hnew : ∀ q, q ∈ B1 \/ q ∈ B2 -> q < w.heap.size := fun q hq => (hown q hq).2.2.1
  refine fin hrun ⟨w.heap.size :: (B1 ++ B2), wf7 (b := w.heap.size) (C := D) (T := e) (fz := (0, 0)) k' m1 m2 hB (zt5 (w := w.drew)) (yi9 _) f1 (by rw [f2, Nat.mul_one]; exact Nat.le_refl _) (fun q hq _ => hg.block q (hq.elim (fun h => hnew q (.inl h)) fun hq => hq.elim (fun h => hnew q (.inr h)) (k.isz q))) (fun hi => Nat.lt_irrefl _ (k.isz _ hi)) (fun i hi hb => Nat.lt_irrefl _ (hnew _ (.inl (m1.inB i hi _ hb)))) (fun i hi hb => Nat.lt_irrefl _ (hnew _ (.inr (m2.inB i hi _ hb)))) (hgd fun i hi => ?_) (List.mem_cons_self ..) (fun q hq => List.mem_cons_of_mem _ (List.mem_append.2 hq)) (fun q hq => ?_) hid2⟩
  ·have h3 := (f3 i _ (List.getElem?_eq_getElem hi)).1
   have hiD : i < D.size := by rw [f2, Nat.mul_one]; rw [List.length_append, l1, l2] at hi; omega
   rw [Nat.mul_one, one_cell hiD, List.cons.injEq] at h3
   rw [h3.1, List.getD_eq_getElem?_getD, List.getElem?_eq_getElem hi]; rfl
  ·rcases List.mem_cons.1 hq with rfl | hq
   ·refine ⟨fun h => Nat.lt_irrefl _ (hPw _ h), fun h => Nat.lt_irrefl _ (k.isz _ h), by rw [z89]; exact Nat.lt_succ_self _, fun id' o' _ ho' hm => Nat.lt_irrefl _ (k.sep id' o' _ ho' hm).2.2⟩
   ·have := hown q (List.mem_append.1 hq)
    exact ⟨this.1, this.2.1, Nat.lt_of_lt_of_le this.2.2.1 hg.size, this.2.2.2⟩
theorem yv8 (hE : EOk P E) (hP : ∀ b, Pr b -> b < w0.heap.size) (k : Rel Pr w0 stk s a.tmps w G) {c : Call} {x y : Operand} {t t' e : TypeId} {ts : List TypeId} {te : TI} {nm : Nat} {base v : LV} (ho : o.op = .call c) (hc : c.callee = .builtin .append)
  (hx : c.args.toList = [x, y]) (ht : c.argTypes.toList = t :: t' :: ts) (hk : E.kd? t = some (.slice e)) (hte : E.ti e = some te) (hr : w2e E t' = true) (hu : s.ev x = .one base) (hv : s.ev y = .one v)
  (h : w3t s nm te.bytes te.ty base v (fun r s => K (.one r) s) = some r) : o.wp P a w (zb2 Pr w0 stk o a K r) Q := by
 unfold w3t at h
 split at h
 ·cases h
 rename_i hb0
 split at h
 ·rename_i id2
  split at h
  ·rename_i u ys hob2
   split at h
   ·rename_i hc2
    obtain ⟨hty, hn0⟩ := hc2
    obtain ⟨A2, c2, hs2, rb2, q1, m2⟩ := wp4 (k.ob id2 _ hob2)
    obtain ⟨A, n, cc, R, e1, e2⟩ := (hv ▸ k.ev y : ARd w G.I G.h (.one (.grd id2)) (a.eval y)).2
    rw [q1] at e1
    simp only [Option.some.injEq, Value.tuple.injEq, Array.mk.injEq, List.cons.injEq, Value.slice.injEq, and_true] at e1
    obtain ⟨⟨rfl, rfl, rfl⟩, rfl⟩ := e1
    simp only [List.cons.injEq, and_true] at e2
    simp only at h
    have two : ∀ {id1 n : Nat} {xs : List (List u.den)} {A1 : Option Addr} {c1 : Nat} {R : Value}, s.obj id1 = some (.mat u xs none) -> G.h id1 = some (.tuple #[.slice A1 xs.length c1, R]) -> n <= xs.length -> a.eval x = .slice A1 n c1 ->
      (if id1 ≠ id2 then (if ((xs.take n).length + ys.length) * te.bytes <= 140737488355328 then y2i ((s.blank id1).kill id1) nm id2 u (xs.take n) ys (fun r s => K (.one r) s) else none) else none) = some r -> o.wp P a w (zb2 Pr w0 stk o a K r) Q := by
     intro id1 n xs A1 c1 R hob1 hh hn hxe h
     split at h
     ·rename_i hne
      split at h
      ·rename_i hb1
       obtain ⟨A1', c1', hs1, rb1, p1, m1⟩ := wp4 (k.ob id1 _ hob1)
       rw [p1] at hh
       simp only [Option.some.injEq, Value.tuple.injEq, Array.mk.injEq, List.cons.injEq, Value.slice.injEq, and_true] at hh
       obtain ⟨⟨rfl, _, rfl⟩, rfl⟩ := hh
       have hl : (xs.take n).length = n := by rw [List.length_take]; omega
       have hobj : ∀ id' o', ((s.blank id1).kill id1).obj id' = some o' -> id' ≠ id1 /\ ∃ o'', s.obj id' = some o'' := fun id' o' h' => by
        obtain ⟨h1, h2, _⟩ := z0w h'
        rw [y0a] at h2
        obtain ⟨o'', h3, _⟩ := Option.map_eq_some_iff.1 h2
        exact ⟨h1, o'', h3⟩
       refine yr5 hE hP ((k.blank id1).kill id1) ho hc hx ht hk hte hr hty (id2 := id2) (by rw [hl]; exact hxe) e2 (wz6 m1 hn) m2 (fun b hb hb' => hne (k.dis id1 id2 _ _ b hob1 hob2 hb hb')) ?_ hb0 hb1 (by omega) ⟨_, q1⟩ (fun b hb hb' => hne (k.dis id1 id2 _ _ b hob1 hob2 hb hb')) h
       rintro q (hq | hq)
       ·have := k.sep id1 _ q hob1 hq
        refine ⟨this.1, this.2.1, this.2.2, fun id' o' _ h' hm => ?_⟩
        obtain ⟨h1, o'', h2⟩ := hobj id' o' h'
        exact h1 (k.dis id' id1 o'' _ q h2 hob1 hm hq)
       ·have := k.sep id2 _ q hob2 hq
        refine ⟨this.1, this.2.1, this.2.2, fun id' o' h0 h' hm => ?_⟩
        obtain ⟨h1, o'', h2⟩ := hobj id' o' h'
        exact h0 (k.dis id' id2 o'' _ q h2 hob2 hm hq)
      ·cases h
     ·cases h
    split at h
    ·split at h
     ·rename_i hb1
      have he : a.eval x = .slice none 0 0 := by
       have := (hu ▸ k.ev x : ARd w G.I G.h (.one .nil) (a.eval x)).2
       simpa [LRd] using this
      refine yr5 hE hP k ho hc hx ht hk hte hr hty (xs := []) (ys := ys) (id2 := id2) (A1 := none) (c1 := 0) (hs1 := []) (rb1 := fun _ => []) (B1 := []) he e2 ⟨rfl, (fun i x hx => by simp at hx), (fun i hi => by simp at hi), (fun i j hi => by simp at hi), .inl ⟨rfl, rfl, rfl⟩⟩ m2 (fun b hb => by cases hb) ?_ hb0 (by simpa using hb1) (by omega) ⟨_, q1⟩ (fun b hb => by cases hb) h
      rintro q (hq | hq)
      ·cases hq
      ·have := k.sep id2 _ q hob2 hq
       exact ⟨this.1, this.2.1, this.2.2, fun id' o' h0 h' hm => h0 (k.dis id' id2 o' _ q h' hob2 hm hq)⟩
     ·cases h
    ·rename_i id1
     split at h
     ·rename_i u' xs0 hob1
      split at h
      ·rename_i xs hcast
       obtain ⟨e', rfl⟩ := z2w hcast
       cases e'
       obtain ⟨A1, c1, hs1, rb1, p1, m1⟩ := wp4 (k.ob id1 _ hob1)
       obtain ⟨A, n, cc, R, e1, e3⟩ := (hu ▸ k.ev x : ARd w G.I G.h (.one (.grd id1)) (a.eval x)).2
       rw [p1] at e1
       simp only [Option.some.injEq, Value.tuple.injEq, Array.mk.injEq, List.cons.injEq, Value.slice.injEq, and_true] at e1
       obtain ⟨⟨rfl, rfl, rfl⟩, rfl⟩ := e1
       simp only [List.cons.injEq, and_true] at e3
       exact two (n := xs0.length) hob1 p1 (Nat.le_refl _) e3 (by rw [List.take_length]; exact h)
      ·cases h
     ·cases h
    ·rename_i id1 m
     split at h
     ·rename_i u' xs0 hob1
      split at h
      ·rename_i xs hcast
       obtain ⟨e', rfl⟩ := z2w hcast
       cases e'
       obtain ⟨A1, c1, hs1, rb1, p1, m1⟩ := wp4 (k.ob id1 _ hob1)
       obtain ⟨A, n, cc, R, e1, hm, e3⟩ := (hu ▸ k.ev x : ARd w G.I G.h (.one (.gpre id1 m)) (a.eval x)).2
       rw [p1] at e1
       simp only [Option.some.injEq, Value.tuple.injEq, Array.mk.injEq, List.cons.injEq, Value.slice.injEq, and_true] at e1
       obtain ⟨⟨rfl, rfl, rfl⟩, rfl⟩ := e1
       simp only [List.cons.injEq, and_true] at e3
       exact two (n := m) hob1 p1 hm e3 h
      ·cases h
     ·cases h
    ·cases h
   ·cases h
  ·cases h
 ·cases h
theorem wf2 (hE : EOk P E) (hP : ∀ b, Pr b -> b < w0.heap.size) (k : Rel Pr w0 stk s a.tmps w G) {still : Bool} {t : TypeId} {len : Nat} {parts : Array (Nat × Operand)} (ho : o.op = .buildSlice t len parts) {q : Nat × ((u : Ty) × List u.den)}
  (hq : w71 E s t len parts.toList = some q) (h : w6k s still (s.nm o.dst) q K = some r) : o.wp P a w (zb2 Pr w0 stk o a K r) Q := by
 unfold w71 at hq
 split at hq
 case isFalse => cases hq
 split at hq
 ·rename_i e y hk hparts
  split at hq
  ·rename_i rr u hy hu
   split at hq
   ·rename_i u' xs hob
    split at hq
    ·rename_i hc
     obtain ⟨rfl, rfl⟩ := hc
     cases hq
     unfold w6k at h
     split at h
     ·cases h
     simp only at h
     obtain ⟨ti, hti, hte⟩ := z74 hu
     obtain ⟨z, hz, hz1, hz2, hz3⟩ := y7z hE hti w
     have h1 : ti.ty.sz = 1 := by rw [hte]; rfl
     have hsz := zg6 (w := w) hE (t := e) (z := ti.ty.sz) (by simp [Env.sz, hu, hte])
     rw [h1] at hsz
     have hzs : z.cells.size = 1 := by have := (hz2 w G.I).length; rw [h1] at this; simpa using this
     obtain ⟨A, n, c, e1, e2⟩ := (hy ▸ k.ev y : ARd w G.I G.h (.one (.own rr)) (a.eval y)).2
     simp only [List.cons.injEq, and_true] at e2
     obtain ⟨v, hv, hrow⟩ := RowOb.of_buf (k.ob rr _ hob)
     rw [e1, Option.some.injEq] at hv
     subst hv
     obtain ⟨cells', g1, g2, g3, _⟩ := y79 (place := fun i => some (i * 1, 1)) (parts := [(0, a.eval y)]) (cells := (Array.range (1 * 1)).map fun j => z.cells[j % z.cells.size]!) (fun p hp => by
       rw [List.mem_singleton] at hp
       subst hp
       exact ⟨0, 1, rfl, by rw [e2]; rfl, by simp⟩) (by simp) (fun i j o1 s1 o2 s2 hne e1 e2 => by cases e1; cases e2; omega)
     have g2 : cells'.size = 1 := by rw [g2]; simp
     have g3 := g3 _ (List.mem_singleton_self _) 0 1 rfl
     rw [one_cell (by omega), e2] at g3
     have g3 : cells'.toList.getD 0 undef = .slice A n c := by simpa [Value.cells] using g3
     have hg : Grow w (push w (.cells cells' e)) := zt6 _ _
     have hPw : ∀ b, Pr b -> b < w.heap.size := fun b hb => Nat.lt_of_lt_of_le (hP b hb) k.keep.size
     have hrb : ∀ b, b ∈ G.bs rr -> ¬ Pr b /\ ¬ G.I b /\ b < w.heap.size := fun b hb => k.sep rr _ b hob hb
     have k' : Rel Pr w0 stk s a.tmps (push w (.cells cells' e)) G :=
      k.grow (I' := G.I) hPw hg (fun _ h => h) (fun b hb => Nat.lt_of_lt_of_le (k.isz b hb) hg.size) fun b hb => .inl hb
     have hob' : Ob (push w (.cells cells' e)) (G.at (s.nm o.dst) (.tuple #[.slice (some ⟨w.heap.size, 0, none⟩) 1 1, .agg #[.slice A n c]]) (w.heap.size :: G.bs rr)) (s.nm o.dst) (.mat u' [xs] none) := by
      refine .inr ⟨w.heap.size, 1, cells', e, (0, 0), fun _ => G.bs rr, #[.slice A n c], y1x .., Nat.le_refl _, by omega, zt5, yi9 _, by rw [zu0]; exact List.mem_cons_self .., fun i _ b hb => by
        rw [zu0]
        exact ⟨List.mem_cons_of_mem _ hb, fun e => Nat.lt_irrefl _ (e ▸ (hrb b hb).2.2)⟩, fun i j hi hj hij => by simp only [List.length_singleton] at hi hj; omega, fun i x hx => ?_, rfl, fun i hi => ?_, fun _ _ e => by cases e⟩
      ·cases i with
       | succ i => simp at hx
       | zero =>
        simp only [List.getElem?_cons_zero, Option.some.injEq] at hx
        subst hx
        exact hrow.mono (fun b hb => hg.block b (k.isz b hb)) (fun _ h => h) fun b hb => hg.block b (hrb b hb).2.2
      ·have : i = 0 := by simpa using hi
       subst this
       exact g3
     have hbs' : ∀ b, b ∈ w.heap.size :: G.bs rr -> ¬ Pr b /\ ¬ G.I b /\ b < (push w (.cells cells' e)).heap.size := fun b hb => by
      rcases List.mem_cons.1 hb with rfl | hb
      ·exact ⟨fun h => Nat.lt_irrefl _ (hPw _ h), fun h => Nat.lt_irrefl _ (k.isz _ h), by rw [z89]; exact Nat.lt_succ_self _⟩
      ·exact ⟨(hrb b hb).1, (hrb b hb).2.1, Nat.lt_of_lt_of_le (hrb b hb).2.2 hg.size⟩
     have hdis' : ∀ b, b ∈ w.heap.size :: G.bs rr -> ∀ id' o', id' ≠ rr -> s.obj id' = some o' -> b ∉ G.bs id' := fun b hb id' o' hne h' hm => by
      rcases List.mem_cons.1 hb with rfl | hb
      ·exact Nat.lt_irrefl _ (k.sep id' o' _ h' hm).2.2
      ·exact hne (k.dis id' rr o' _ b h' hob hm hb)
     obtain ⟨sn, kn, h⟩ : ∃ sn, Rel Pr w0 stk sn a.tmps (push w (.cells cells' e)) (G.at (s.nm o.dst) (.tuple #[.slice (some ⟨w.heap.size, 0, none⟩) 1 1, .agg #[.slice A n c]]) (w.heap.size :: G.bs rr)) /\ K (.one (.grd (s.nm o.dst))) sn = some r := by
      split at h
      ·exact ⟨_, k'.lay' hob' hbs' hdis', h⟩
      ·rename_i hne
       refine ⟨_, k'.lay hob' hbs' hdis' hne fun q cs hq => ?_, h⟩
       cases q with
       | own i =>
        show LRd (push w (.cells cells' e)) G.I _ (if i = rr then .row (s.nm o.dst) u' 0 else .own i) cs
        by_cases ei : i = rr
        ·rw [if_pos ei]
         obtain ⟨A', n', c', e3, rfl⟩ := hq
         subst ei
         rw [show (G.at (s.nm o.dst) (.tuple #[.slice (some ⟨w.heap.size, 0, none⟩) 1 1, .agg #[.slice A n c]]) (w.heap.size :: G.bs i)).h i = G.h i by simp [Gh.at, hne], e1] at e3
         simp only [Option.some.injEq, Value.slice.injEq] at e3
         obtain ⟨rfl, rfl, rfl⟩ := e3
         exact ⟨Int.le_refl _, _, _, A, n, c, y1x .., rfl, rfl⟩
        ·rw [if_neg ei]; exact hq
       | _ => exact hq
     refine z3u (x := .slice (some ⟨w.heap.size, 0, none⟩) 1 1) (w' := push w (.cells cells' e)) ?_ ⟨.one (.grd (s.nm o.dst)), _, _, _, rfl, kn, ⟨rfl, _, _, _, _, y1x .., rfl⟩, h⟩
     unfold execOp
     simp only [ho, Instr.buildSlice, Sem.run_bind, z2q (z67 hE hk), Result.andThen_ok, hsz]
     rw [if_neg (by omega)]
     rw [if_neg (by omega)]
     simp only [Sem.run_bind, hz, Result.andThen_ok, pure_bind, Array.toList_map, hparts, List.map_cons, List.map_nil, g1, zc6, Sem.run_pure]
    ·cases hq
   ·cases hq
  ·cases hq
 ·cases hq
theorem yo3 (hE : EOk P E) (hP : ∀ b, Pr b -> b < w0.heap.size) (k : Rel Pr w0 stk s a.tmps w G) {still : Bool} {t : TypeId} {len : Nat} {parts : Array (Nat × Operand)} (ho : o.op = .buildSlice t len parts)
  (h : (match w71 E s t len parts.toList with
  | some q => w6k s still (s.nm o.dst) q K
  | none => match E.kd? t, y0c s parts.toList with
  | some (.slice e), some ps => match E.elTy e with
    | some u => if ps.all (fun p => decide (p.1 < len)) && decide (u.sz ≠ 0) && decide (len * u.sz <= 16777216) then (match zk8 s u ps 0 len with
      | some xs => match s.solids? still (ps.flatMap Prod.snd) with
        | some s' => match s'.mk? still (s.nm o.dst) (.buf u xs) with
          | some s'' => K (.one (.own (s.nm o.dst))) (s''.pinNN (s.nm o.dst))
          | none => none
        | none => none
      | none => none) else none
    | none => none
  | _, _ => none) = some r) : o.wp P a w (zb2 Pr w0 stk o a K r) Q := by
 split at h
 ·rename_i q hq
  exact wf2 hE hP k ho hq h
 ·exact yc2 hE hP k ho h
end
end Vm
/- append: soundness. -/
namespace Vm
open Go
section
variable {ρ : Type} {P : Program} {E : Env} {Pr : Nat -> Prop} {w0 : St} {w : World} {stk : List (Array Value)} {s : MS} {a : Act} {G : Gh} {o : Oper} {Q : Exit -> Act -> World -> Prop} {K : AV -> MS -> Option ρ} {r : ρ} {tm : Array Value}
def v2i (Pr : Nat -> Prop) (s : MS) (w : World) (G : Gh) (t : Ty) (old : List t.den) (A : Option Addr) (n cap : Nat) : Prop :=
 (A = none /\ n = 0 /\ cap = 0 /\ old = []) \/ ∃ b C T fz, A = some ⟨b, 0, none⟩ /\ n = old.length /\ n <= cap /\ w.heap[b]? = some (.cells C T fz) /\ yq5 C fz /\ cap * t.sz <= C.size /\
  (∀ (i : Nat) (x : t.den), old[i]? = some x -> Rd w G.I t x ((C.toList.drop (i * t.sz)).take t.sz)) /\ ¬ Pr b /\ ¬ G.I b /\ ∀ id ob, s.obj id = some ob -> b ∉ G.bs id
theorem wp2 {t : Ty} {old : List t.den} {A : Option Addr} {n cap : Nat} (h : v2i Pr s w G t old A n cap) : Src P w t.sz (Rd w G.I t) old (.slice A n cap) /\ old.length = n := by
 rcases h with ⟨rfl, rfl, rfl, rfl⟩ | ⟨b, C, T, fz, rfl, rfl, h1, h2, h3, h4, h5, _⟩
 ·exact ⟨zx1, rfl⟩
 ·refine ⟨y3x h2 ?_ (fun _ _ => Rd.cell1) (fun i x hx => by simpa using h5 i x hx), rfl⟩
  have : old.length * t.sz <= cap * t.sz := Nat.mul_le_mul_right _ h1
  omega
theorem w9k (hE : EOk P E) (hP : ∀ b, Pr b -> b < w0.heap.size) (k : Rel Pr w0 stk s a.tmps w G) {c : Call} {x y : Operand} {t t' e : TypeId} {ts : List TypeId} {te : TI} (ho : o.op = .call c) (hc : c.callee = .builtin .append)
  (hx : c.args.toList = [x, y]) (ht : c.argTypes.toList = t :: t' :: ts) (hk : E.kd? t = some (.slice e)) (hte : E.ti e = some te) (hr : w2e E t' = true) {old ys : List te.ty.den} {A : Option Addr} {n cap nm : Nat}
  (hev : a.eval x = .slice A n cap) (hA : v2i Pr s w G te.ty old A n cap) (hy : Src P w te.ty.sz (Rd w G.I te.ty) ys (a.eval y))
  (hb0 : te.bytes ≠ 0) {nn : Bool} (hnn : nn = true -> A ≠ none) (h : (if (old.length + ys.length) * te.bytes <= 140737488355328 then K (.one (.own nm)) (if nn = true then (s.new nm (.buf te.ty (old ++ ys))).pinNN nm else s.new nm (.buf te.ty (old ++ ys))) else none) = some r) :
  o.wp P a w (zb2 Pr w0 stk o a K r) Q := by
 split at h
 case isFalse => cases h
 ·rename_i hb1
  have hb : te.bytes ≠ 0 /\ (old.length + ys.length) * te.bytes <= 140737488355328 := ⟨hb0, hb1⟩
  obtain ⟨hs, hn⟩ := wp2 (P := P) hA
  have h0 : c.argTypes[0]? = some t := by rw [<- Array.getElem?_toList, ht]; rfl
  have h1 : c.argTypes[1]? = some t' := by rw [<- Array.getElem?_toList, ht]; rfl
  obtain ⟨cs, g1, g2, g3, g4⟩ := yt3 (ty := o.type) hE h0 h1 hk hte hr hs hn hy hb.1 (by rw [<- hn]; exact hb.2)
  have hl : (old ++ ys).length = n + ys.length := by simp [hn]
  have fin : ∀ {w' : World} {v : Value} {bs : List Nat} {A' : Option Addr} {c' : Nat}, v = .slice A' (n + ys.length) c' -> (nn = true -> A' ≠ none) -> (Go.Builtin.append_ c.argTypes o.type #[.slice A n cap, a.eval y]).run P w = .ok v w' -> Rel Pr w0 stk s a.tmps w' G ->
    Ob w' (G.at nm v bs) nm (.buf te.ty (old ++ ys)) -> (∀ b, b ∈ bs -> ¬ Pr b /\ ¬ G.I b /\ b < w'.heap.size) -> (∀ b, b ∈ bs -> ∀ id' o', s.obj id' = some o' -> b ∉ G.bs id') -> o.wp P a w (zb2 Pr w0 stk o a K r) Q := by
   intro w' v bs A' c' hv hnn' hrun k' hob hsep hdis
   refine z3u (x := v) (w' := w') (z40 ho hc fun consts => ?_) ⟨.one (.own nm), if nn = true then (s.new nm (.buf te.ty (old ++ ys))).pinNN nm else s.new nm (.buf te.ty (old ++ ys)), v, G.at nm v bs, rfl, ?_, ?_, h⟩
   ·rw [yw0 hx, hev]
    simp only [Go.builtin, Sem.run_bind, hrun, Result.andThen_ok, Sem.run_pure]
   ·have kn : Rel Pr w0 stk (s.new nm (.buf te.ty (old ++ ys))) a.tmps w' (G.at nm v bs) := (k'.kill nm).add (z47 s nm) hob hsep fun b hb id' o' hne h' => hdis b hb id' o' (z0w h').2.1
    split
    ·rename_i hn1
     refine kn.pinNN ?_
     rw [y1x, hv]
     cases hA' : A' with
     | none => exact absurd hA' (hnn' hn1)
     | some q => exact ⟨_, _, _, rfl⟩
    ·exact kn
   ·subst hv
    exact ⟨rfl, _, _, _, y1x .., rfl⟩
  rcases g4 with ⟨hle, hrun⟩ | ⟨hlt, D, nc, f1, f2, f3, hrun⟩
  ·rcases hA with ⟨rfl, rfl, rfl, rfl⟩ | ⟨b, C, T, fz, rfl, rfl, q1, q2, q3, q4, q5, q6, q7, q8⟩
   ·obtain rfl : ys = [] := by cases ys with | nil => rfl | cons => simp at hle
    refine fin (bs := []) rfl (fun h1 => absurd rfl (hnn h1)) (by rw [hrun]; rfl) k (.inl ⟨y1x .., rfl, zu0 ..⟩) (by simp) (by simp)
   ·have hin : old.length * te.ty.sz + ys.length * te.ty.sz <= cap * te.ty.sz := by rw [<- Nat.add_mul]; exact Nat.mul_le_mul_right _ hle
    have hlen : old.length * te.ty.sz + cs.length <= C.size := by rw [g1]; omega
    have hst := z4t (P := P) q2 q3 hlen g2
    have hbw : b < w.heap.size := (Array.getElem?_eq_some_iff.1 q2).1
    have k' : Rel Pr w0 stk s a.tmps (wr w b (y1u C (old.length * te.ty.sz) cs) T fz) G := by
     refine k.mono (I' := G.I) ⟨rfl, rfl, rfl, Nat.le_of_eq wr_size.symm, fun b' hb' => wr_ne (by rintro rfl; exact q6 hb')⟩ (fun b' hb' => wr_ne (by rintro rfl; exact q7 hb')) (fun _ h => h) (fun b' hb' => by rw [wr_size]; exact k.isz b' hb') ?_ k.old
     exact fun id ob b' hob hb' => ⟨wr_ne (by rintro rfl; exact q8 id ob hob hb'), (k.sep id ob b' hob hb').2.1⟩
    refine fin (bs := [b]) (A' := some ⟨b, 0, none⟩) (c' := cap) rfl (fun _ => by simp) (by rw [hrun]; simp only [addr_add, Nat.zero_add, hst, Result.andThen_ok]) k'
     (.inr ⟨b, cap, y1u C (old.length * te.ty.sz) cs, T, fz, by rw [y1x, hl], zu0 .., by rw [hl]; exact hle, y0j hbw, z78 (z3e ..) q3, by rw [z3e]; exact q4, fun i z hz => ?_⟩) ?_ ?_
    ·have hR : Rd w G.I te.ty z (((y1u C (old.length * te.ty.sz) cs).toList.drop (i * te.ty.sz)).take te.ty.sz) := by
      rw [zt7 hlen]
      refine w15 (xs := old) (ys := ys) (R := Rd w G.I te.ty) (by simp; omega) g1 (fun i x hx => ?_) g3 i z hz
      have hi : i < old.length := (List.getElem?_eq_some_iff.1 hx).1
      rw [show C.toList.take (old.length * te.ty.sz) = (C.toList.drop 0).take (old.length * te.ty.sz) by rfl, z4i _ _ _ _ _ (by rw [<- Nat.succ_mul]; exact Nat.mul_le_mul_right _ hi), Nat.zero_add]
      exact q5 i x hx
     exact hR.mono (fun b' hb' => wr_ne (by rintro rfl; exact q7 hb')) fun _ h => h
    ·intro b' hb'
     rw [List.mem_singleton] at hb'
     subst hb'
     exact ⟨q6, q7, by rw [wr_size]; exact hbw⟩
    ·intro b' hb' id' o' ho'
     rw [List.mem_singleton] at hb'
     subst hb'
     exact q8 id' o' ho'
  ·have hg : Grow w (push w.drew (.cells D e)) := ⟨rfl, rfl, rfl, by rw [z89]; exact Nat.le_succ _, fun b hb => y3e (w := w.drew) hb⟩
   have hPw : ∀ b, Pr b -> b < w.heap.size := fun b hb => Nat.lt_of_lt_of_le (hP b hb) k.keep.size
   have k' : Rel Pr w0 stk s a.tmps (push w.drew (.cells D e)) G :=
    k.grow (I' := G.I) hPw hg (fun _ h => h) (fun b hb => Nat.lt_of_lt_of_le (k.isz b hb) hg.size) fun b hb => .inl hb
   refine fin (bs := [w.heap.size]) rfl (fun _ => by simp) hrun k' (.inr ⟨w.heap.size, nc, D, e, (0, 0), by rw [y1x, hl], zu0 .., by rw [hl]; exact f1, zt5 (w := w.drew), yi9 _, by rw [f2]; exact Nat.le_refl _, fun i z hz => ?_⟩) ?_ ?_
   ·exact (f3 i z hz).mono (fun b hb => hg.block b (k.isz b hb)) fun _ h => h
   ·intro b' hb'
    rw [List.mem_singleton] at hb'
    subst hb'
    exact ⟨fun h => Nat.lt_irrefl _ (hPw _ h), fun h => Nat.lt_irrefl _ (k.isz _ h), by rw [z89]; exact Nat.lt_succ_self _⟩
   ·intro b' hb' id' o' ho' hm
    rw [List.mem_singleton] at hb'
    subst hb'
    exact Nat.lt_irrefl _ (k.sep id' o' _ ho' hm).2.2
theorem v3n {t : Ty} {ys : List t.den} {x : Value} {G' : Gh} (h : Src P w t.sz (Rd w G.I t) ys x) (hI : ∀ b, G.I b -> G'.I b) : Src P w t.sz (Rd w G'.I t) ys x := by
 obtain ⟨cs, h1, h2, h3, h4, h5⟩ := h
 exact ⟨cs, h1, h2, fun i y hy => (h3 i y hy).mono (fun _ _ => rfl) hI, h4, h5⟩
theorem wg1 {id : Nat} {t : Ty} {xs : List t.den} (k : Rel Pr w0 stk s tm w G) (h : s.obj id = some (.buf t xs)) {A : Option Addr} {n c m : Nat} (hh : G.h id = some (.slice A n c)) (hm : m <= n) :
  v2i Pr (s.kill id) w G t (xs.take m) A m c := by
 rcases k.ob id _ h with ⟨k1, k2, k3⟩ | ⟨b, c', C, T, fz, k1, k2, k3, k4, k5, k6, k7⟩
 ·rw [k1] at hh
  cases hh
  subst k2
  exact .inl ⟨rfl, by omega, rfl, by simp⟩
 ·rw [k1] at hh
  cases hh
  have hs := k.sep id _ b h (by rw [k2]; simp)
  refine .inr ⟨b, C, T, fz, rfl, by simp; omega, by omega, k4, k5, k6, fun i x hx => ?_, hs.1, hs.2.1, fun id' ob' h' hb => ?_⟩
  ·rw [List.getElem?_take] at hx
   split at hx
   ·exact k7 i x hx
   ·cases hx
  ·obtain ⟨hne, h'', _⟩ := z0w h'
   exact hne (k.dis id' id ob' _ b h'' h hb (by rw [k2]; simp))
theorem w5l (hE : EOk P E) (hP : ∀ b, Pr b -> b < w0.heap.size) (k : Rel Pr w0 stk s a.tmps w G) {c : Call} {x y : Operand} {t t' e : TypeId} {ts : List TypeId} {te : TI} {nm : Nat} {u v : LV} (ho : o.op = .call c) (hc : c.callee = .builtin .append)
  (hx : c.args.toList = [x, y]) (ht : c.argTypes.toList = t :: t' :: ts) (hk : E.kd? t = some (.slice e)) (hte : E.ti e = some te) (hr : E.ty? t' = some (.int .i64)) (hu : s.ev x = .one u) (hv : s.ev y = .one v)
  (h : wl2 s nm te.bytes te.ty u v K = some r) : o.wp P a w (zb2 Pr w0 stk o a K r) Q := by
 unfold wl2 at h
 split at h
 ·rename_i n
  split at h
  ·rename_i hb
   split at h
   ·rename_i h0
    split at h
    ·rename_i hbig
     have ex : a.eval x = .slice none 0 0 := by
      have := (hu ▸ k.ev x : ARd w G.I G.h (.one .nil) (a.eval x)).2
      simpa [LRd] using this
     have ey : a.eval y = .int .i64 n := z4x (hv ▸ k.ev y)
     obtain ⟨m, hm⟩ : ∃ m : Nat, (n : Int) = (m : Int) := ⟨Int.toNat n, (Int.toNat_of_nonneg (Int.le_of_lt h0)).symm⟩
     have hm : n = (m : Int) := hm
     subst hm
     have hm0 : 0 < m := Int.ofNat_lt.1 h0
     have hbm : m * te.bytes <= 140737488355328 := by
      have hbig : (m : Int) * (te.bytes : Int) <= 140737488355328 := hbig
      rw [<- Int.natCast_mul] at hbig
      omega
     have h1 : c.argTypes[0]? = some t := by rw [<- Array.getElem?_toList, ht]; rfl
     have h2 : c.argTypes[1]? = some t' := by rw [<- Array.getElem?_toList, ht]; rfl
     obtain ⟨⟨ii, hi1, hi2, hi3, z, hz, _, hzr, _⟩, _, _, _⟩ := hE.te e te hte
     have hzl : z.cells.size = te.ty.sz := by
      have := (hzr w (fun _ => True)).length
      simpa using this
     have hti : P.underlying t' = some (.int .i64) := ym3 hE hr
     have hmb : m <= m * te.bytes := Nat.le_mul_of_pos_right _ (Nat.pos_of_ne_zero hb.2)
     have hrun := Go.Lib.run_append_grow_zeros (P := P) w t t' o.type e ii z .i64 .i64 (z67 hE hk) hti hi1 hz none 0 0 [] (run_firstCells_none w.drew ii.size 0 0 0) m hm0 (by rw [hi2]; exact Nat.pos_of_ne_zero hb.1) (by omega)
      (by omega) (by rw [hi3]; omega) (by rw [hi3, Nat.zero_add]; exact growslice_fits hm0 hbm)
     rw [Nat.zero_add] at hrun
     have happ : ∀ (as : Array TypeId), as[0]? = some t -> as[1]? = some t' -> Builtin.append_ as o.type #[.slice none 0 0, .int .i64 (m : Int)] = Builtin.append_ #[t, t'] o.type #[.slice none 0 0, .int .i64 (m : Int)] := fun as q0 q1 => by
      unfold Builtin.append_
      rw [q0, q1]; rfl
     generalize hD : (#[] ++ Builtin.zeroCells z.cells m ++ Builtin.zeroCells z.cells (grownCap w m 0 e - m) : Array Value) = D at hrun
     have hcap : m <= grownCap w m 0 e := grownCap_ge w _ _ _
     have hDs : grownCap w m 0 e * te.ty.sz <= D.size := by
      rw [<- hD]
      simp only [Array.size_append, Builtin.zeroCells, Array.size_map, Array.size_range, hzl, List.size_toArray, List.length_nil, Nat.zero_add, <- Nat.add_mul]
      exact Nat.mul_le_mul_right _ (by omega)
     have hg : Grow w (push w.drew (.cells D e)) := ⟨rfl, rfl, rfl, by rw [z89]; exact Nat.le_succ _, fun b hb => y3e (w := w.drew) hb⟩
     have hPw : ∀ b, Pr b -> b < w.heap.size := fun b hb => Nat.lt_of_lt_of_le (hP b hb) k.keep.size
     have k' : Rel Pr w0 stk s a.tmps (push w.drew (.cells D e)) G :=
      k.grow (I' := G.I) hPw hg (fun _ h => h) (fun b hb => Nat.lt_of_lt_of_le (k.isz b hb) hg.size) fun b hb => .inl hb
     refine z3u (x := .slice (some ⟨w.heap.size, 0, none⟩) m (grownCap w m 0 e)) (w' := push w.drew (.cells D e)) (z40 ho hc fun consts => ?_)
      ⟨.one (.own nm), s.new nm (.buf te.ty (List.replicate m te.ty.zero)), _, G.at nm (.slice (some ⟨w.heap.size, 0, none⟩) m (grownCap w m 0 e)) [w.heap.size], rfl, ?_, ⟨rfl, _, _, _, y1x .., rfl⟩, h⟩
     ·rw [yw0 hx, ex, ey]
      simp only [Go.builtin, Sem.run_bind, happ _ h1 h2, hrun, Result.andThen_ok, Sem.run_pure]
      rfl
     ·refine (k'.kill nm).add (z47 s nm) (.inr ⟨w.heap.size, grownCap w m 0 e, D, e, (0, 0), by rw [List.length_replicate]; exact y1x .., zu0 .., by rw [List.length_replicate]; exact hcap, zt5 (w := w.drew), yi9 _, hDs, fun i q hq => ?_⟩) ?_ ?_
      ·rw [List.getElem?_replicate] at hq
       split at hq
       ·rename_i him
        cases hq
        have : (D.toList.drop (i * te.ty.sz)).take te.ty.sz = z.cells.toList := by
         have hc2 := y1b hzl hb.1 him
         have hle : i * te.ty.sz + te.ty.sz <= m * te.ty.sz := by rw [<- Nat.succ_mul]; exact Nat.mul_le_mul_right _ him
         rw [<- hD, <- hc2]
         have hsz : (Builtin.zeroCells z.cells m).toList.length = m * te.ty.sz := by simp [Builtin.zeroCells, hzl]
         rw [Array.empty_append, Array.toList_append, List.drop_append_of_le_length (by omega), List.take_append_of_le_length (by rw [List.length_drop]; omega)]
         unfold Builtin.zeroCells
         rw [hzl]
        rw [this]
        exact hzr _ _
       ·cases hq
      ·intro b' hb'
       rw [List.mem_singleton] at hb'
       subst hb'
       exact ⟨fun h => Nat.lt_irrefl _ (hPw _ h), fun h => Nat.lt_irrefl _ (k.isz _ h), by rw [z89]; exact Nat.lt_succ_self _⟩
      ·intro b' hb' id' o' hne h'
       rw [List.mem_singleton] at hb'
       subst hb'
       intro hm
       exact Nat.lt_irrefl _ (k.sep id' o' _ (z0w h').2.1 hm).2.2
    ·cases h
   ·cases h
  ·cases h
 ·cases h
theorem w0w (hE : EOk P E) (hP : ∀ b, Pr b -> b < w0.heap.size) (k : Rel Pr w0 stk s a.tmps w G) {c : Call} {x y : Operand} {t t' : TypeId} {ts : List TypeId} {d : Option Nat} (ho : o.op = .call c) (hc : c.callee = .builtin .append)
  (hx : c.args.toList = [x, y]) (ht : c.argTypes.toList = t :: t' :: ts) (h : w3s E s d t t' x y K = some r) : o.wp P a w (zb2 Pr w0 stk o a K r) Q := by
 unfold w3s at h
 split at h
 ·rename_i u v e hu hv hk
  split at h
  ·rename_i te hte
   split at h
   ·split at h
    ·rename_i hr
     exact yv8 hE hP k ho hc hx ht hk hte hr hu hv h
    ·cases h
   split at h
   rotate_left
   ·split at h
    ·rename_i hti
     exact w5l hE hP k ho hc hx ht hk hte hti hu hv h
    ·cases h
   ·rename_i hr
    unfold w9l at h
    split at h
    ·cases h
    rename_i hb0
    split at h
    ·cases h
    ·rename_i ys hys
     have kx : ARd w G.I G.h (.one u) (a.eval x) := hu ▸ k.ev x
     have ky : ARd w G.I G.h (.one v) (a.eval y) := hv ▸ k.ev y
     have hsrc := y9a (P := P) k hys ky.2
     split at h
     ·have he : a.eval x = .slice none 0 0 := by have := kx.2; simpa [LRd] using this
      exact w9k hE hP k ho hc hx ht hk hte hr he (.inl ⟨rfl, rfl, rfl, rfl⟩) hsrc hb0 (nn := false) (by simp) h
     ·rename_i id
      split at h
      ·rename_i t2 xs hob
       split at h
       ·rename_i xs' hcast
        obtain ⟨e', rfl⟩ := z2w hcast
        cases e'
        obtain ⟨_, A, n, cp, hid, he⟩ := kx
        simp only [List.cons.injEq, and_true] at he
        have hob' : (s.blank id).obj id = some (.buf te.ty xs) := by rw [y0a, hob]; rfl
        have hm := wg1 (k.blank id) hob' hid (Nat.le_refl _)
        rw [(zq2 (k.ob id _ hob) hid).1, List.take_length] at hm
        rw [(zq2 (k.ob id _ hob) hid).1] at he
        refine w9k hE hP ((k.blank id).kill id) ho hc hx ht hk hte hr he hm hsrc hb0 (fun hn => ?_) h
        obtain ⟨b, n2, c2, e3⟩ := yy6 (k.pin _ (List.contains_iff_mem.1 hn))
        rw [hid] at e3
        cases e3
        simp
       ·cases h
      ·cases h
     ·rename_i id m
      split at h
      ·rename_i t2 xs hob
       split at h
       ·rename_i xs' hcast
        obtain ⟨e', rfl⟩ := z2w hcast
        cases e'
        obtain ⟨_, A, n, cp, hid, hm, he⟩ := kx
        simp only [List.cons.injEq, and_true] at he
        have hob' : (s.blank id).obj id = some (.buf te.ty xs) := by rw [y0a, hob]; rfl
        exact w9k hE hP ((k.blank id).kill id) ho hc hx ht hk hte hr he (wg1 (k.blank id) hob' hid hm) hsrc hb0 (nn := false) (by simp) h
       ·cases h
      ·cases h
     ·cases h
  ·cases h
 ·cases h
theorem w80 (hE : EOk P E) (k : Rel Pr w0 stk s a.tmps w G) {c : Call} {x y : Operand} {t e : TypeId} {ts : List TypeId} {z : Nat} {u v : LV} (ho : o.op = .call c) (hc : c.callee = .builtin .copy)
  (hx : c.args.toList = [x, y]) (ht : c.argTypes.toList = t :: ts) (hk : E.kd? t = some (.slice e)) (hz : E.sz e = some z) (hu : s.ev x = .one u) (hv : s.ev y = .one v) (h : ww3 s z u v K = some r) :
  o.wp P a w (zb2 Pr w0 stk o a K r) Q := by
 have kx : ARd w G.I G.h (.one u) (a.eval x) := hu ▸ k.ev x
 have ky : ARd w G.I G.h (.one v) (a.eval y) := hv ▸ k.ev y
 unfold ww3 at h
 split at h
 ·rename_i id
  split at h
  ·rename_i t' xs hob
   split at h
   ·cases h
   ·rename_i hsz
    have hsz : t'.sz = z := Decidable.not_not.1 hsz
    split at h
    ·rename_i ys hys
     obtain ⟨cs, g1, g2, g3, g4, g5⟩ := y9a (P := P) k hys ky.2
     obtain ⟨_, A, n, cp, hid, he⟩ := kx
     simp only [List.cons.injEq, and_true] at he
     have hn := (zq2 (k.ob id _ hob) hid).1
     have hund := z67 hE hk
     have h0 : c.argTypes[0]? = some t := by rw [<- Array.getElem?_toList, ht]; rfl
     have hm : Nat.min ys.length n <= ys.length := Nat.min_le_left _ _
     have hf := g5 w _ rfl hm
     rw [hsz] at hf
     have hrun : ∀ {w' : World}, ((match (generalizing := false) A with | some a => storeCells a (cs.take (Nat.min ys.length n * z)) | none => pure () : Sem Unit).run P w) = .ok () w' ->
       (execOp a.eval o).run P w = .ok (.value (.int .i64 (Nat.min ys.length n : Nat))) w' := by
      intro w' hw
      refine z40 ho hc fun consts => ?_
      rw [yw0 hx, he]
      unfold Go.builtin Builtin.copy_
      simp only [List.getElem?_toArray, List.getElem?_cons_zero, List.getElem?_cons_succ, h0, Sem.run_bind, z2q hund, Result.andThen_ok, zg6 hE hz, g4, Sem.run_pure, hf]
      cases A with
      | none => simp only [Sem.run_pure, Result.ok.injEq, true_and] at hw; subst hw; rfl
      | some b =>
       simp only at hw
       simp only [Sem.run_bind, hw, Result.andThen_ok, Sem.run_pure]; rfl
     rcases k.ob id _ hob with ⟨k1, k2, k3⟩ | ⟨b, c', C, T, fz, k1, k2, k3, k4, k5, k6, k7⟩
     ·rw [k1] at hid
      cases hid
      subst k2
      have hmin : Nat.min ys.length 0 = 0 := Nat.min_zero _
      refine z3u (hrun (w' := w) rfl) ⟨i1 .i64 (min ys.length 0 : Nat), _, _, G, rfl, k.turn (o' := .buf t' (ys.take 0 ++ [].drop ys.length)) hob (fun _ _ => rfl) rfl rfl rfl rfl (.inl ⟨k1, by simp, k3⟩), zk4, ?_⟩
      exact h
     ·rw [k1] at hid
      cases hid
      have hcl : (cs.take (Nat.min ys.length xs.length * z)).length = Nat.min ys.length xs.length * z := by
       rw [List.length_take, g1, hsz, Nat.min_eq_left]
       exact Nat.mul_le_mul_right _ hm
      have hle1 : Nat.min ys.length xs.length * z <= C.size := by
       have : Nat.min ys.length xs.length * z <= cp * t'.sz := by
        rw [hsz]; exact Nat.mul_le_mul_right _ (Nat.le_trans (Nat.min_le_right _ _) k3)
       omega
      have hst := z4t (P := P) (o := 0) k4 k5 (vs := cs.take (Nat.min ys.length xs.length * z)) (by rw [hcl]; omega) (fun v hv => g2 v (List.mem_of_mem_take hv))
      have hlen : (ys.take xs.length ++ xs.drop ys.length).length = xs.length := by
       simp; omega
      refine z3u (hrun hst) ⟨i1 .i64 (min ys.length xs.length : Nat), _, _, G, rfl, k.wr (ob' := .buf t' (ys.take xs.length ++ xs.drop ys.length)) hob k2
        (.inr ⟨b, cp, y1u C 0 (cs.take (Nat.min ys.length xs.length * z)), T, fz, by rw [hlen]; exact k1, k2, by rw [hlen]; exact k3, y0j (Array.getElem?_eq_some_iff.1 k4).1, z78 (z3e ..) k5, by rw [z3e]; exact k6, fun i q hq => ?_⟩), zk4, h⟩
      have hR : Rd w G.I t' q (((y1u C 0 (cs.take (Nat.min ys.length xs.length * z))).toList.drop (i * t'.sz)).take t'.sz) := by
       rw [zt7 (by rw [hcl]; omega), List.take_zero, List.nil_append, Nat.zero_add, hcl]
       have hml : (ys.take xs.length).length = Nat.min ys.length xs.length := by rw [List.length_take, Nat.min_comm]
       have hil : i < xs.length := by rw [<- hlen]; exact (List.getElem?_eq_some_iff.1 hq).1
       have hsp : (i + 1) * z <= xs.length * z := Nat.mul_le_mul_right _ hil
       by_cases hi : i < Nat.min ys.length xs.length
       ·rw [List.getElem?_append_left (by rw [hml]; exact hi), List.getElem?_take_of_lt hil] at hq
        have hin : i * z + z <= Nat.min ys.length xs.length * z := by rw [<- Nat.succ_mul]; exact Nat.mul_le_mul_right _ hi
        have := g3 i q hq
        rw [hsz] at this ⊢
        rw [List.drop_append_of_le_length (by rw [hcl]; omega), List.take_append_of_le_length (by simp only [List.length_drop, hcl]; omega),
          show cs.take (Nat.min ys.length xs.length * z) = (cs.drop 0).take (Nat.min ys.length xs.length * z) by rfl, z4i _ _ _ _ _ hin, Nat.zero_add]
        exact this
       ·have hy : Nat.min ys.length xs.length = ys.length := by
         have : ¬ (i < ys.length /\ i < xs.length) := fun ⟨h1, h2⟩ => hi (Nat.lt_min.2 ⟨h1, h2⟩)
         exact Nat.min_eq_left (by omega)
        rw [List.getElem?_append_right (by rw [hml]; omega), hml, hy, List.getElem?_drop, show ys.length + (i - ys.length) = i by rw [hy] at hi; omega] at hq
        have := k7 i q hq
        have hyi : ys.length * z <= i * z := Nat.mul_le_mul_right _ (by rw [hy] at hi; omega)
        rw [hsz] at this ⊢
        rw [List.drop_append, List.drop_of_length_le (by rw [hcl, hy]; exact hyi), List.nil_append, hcl, hy, List.drop_drop, show ys.length * z + (i * z - ys.length * z) = i * z by omega]
        exact this
      exact hR.mono (k.wr_I hob k2) fun _ h => h
    ·cases h
  ·cases h
 ·rename_i id u lo m
  split at h
  ·rename_i t' xs hob
   split at h
   ·cases h
   ·rename_i hsz
    have hsz' := not_or.1 hsz
    have hut : u = t' := Decidable.not_not.1 hsz'.2
    have hsz : t'.sz = z := Decidable.not_not.1 hsz'.1
    subst hut
    split at h
    ·rename_i ys hys
     obtain ⟨cs, g1, g2, g3, g4, g5⟩ := y9a (P := P) k hys ky.2
     obtain ⟨_, A, n, cp, hid, hlo, he⟩ := kx
     simp only [List.cons.injEq, and_true] at he
     obtain ⟨hn, _⟩ := zq2 (k.ob id _ hob) hid
     have hund := z67 hE hk
     have h0 : c.argTypes[0]? = some t := by rw [<- Array.getElem?_toList, ht]; rfl
     have hm : Nat.min ys.length m <= ys.length := Nat.min_le_left _ _
     have hm2 : Nat.min ys.length m <= m := Nat.min_le_right _ _
     have hf := g5 w _ rfl hm
     rw [hsz] at hf
     have hrun : ∀ {B : Option Addr} {c2 : Nat} {w' : World}, a.eval x = .slice B m c2 -> ((match (generalizing := false) B with | some a => storeCells a (cs.take (Nat.min ys.length m * z)) | none => pure () : Sem Unit).run P w) = .ok () w' ->
       (execOp a.eval o).run P w = .ok (.value (.int .i64 (Nat.min ys.length m : Nat))) w' := by
      intro B c2 w' he hw
      refine z40 ho hc fun consts => ?_
      rw [yw0 hx, he]
      unfold Go.builtin Builtin.copy_
      simp only [List.getElem?_toArray, List.getElem?_cons_zero, List.getElem?_cons_succ, h0, Sem.run_bind, z2q hund, Result.andThen_ok, zg6 hE hz, g4, Sem.run_pure, hf]
      cases B with
      | none => simp only [Sem.run_pure, Result.ok.injEq, true_and] at hw; subst hw; rfl
      | some b =>
       simp only at hw
       simp only [Sem.run_bind, hw, Result.andThen_ok, Sem.run_pure]; rfl
     rcases k.ob id _ hob with ⟨k1, k2, k3⟩ | ⟨b, c', C, T, fz, k1, k2, k3, k4, k5, k6, k7⟩
     ·rw [k1] at hid
      cases hid
      subst k2
      have hm0 : m = 0 := by omega
      have hl0 : lo = 0 := by omega
      subst hm0
      subst hl0
      rw [if_pos rfl] at he
      refine z3u (hrun (w' := w) he rfl) ⟨i1 .i64 (min ys.length 0 : Nat), _, _, G, rfl, k.turn (o' := .buf u ([].take 0 ++ (ys.take 0 ++ [].drop (0 + min ys.length 0)))) hob (fun _ _ => rfl) rfl rfl rfl rfl (.inl ⟨k1, by simp, k3⟩), zk4, ?_⟩
      exact h
     ·rw [k1] at hid
      cases hid
      have hkz : Nat.min ys.length m * z <= m * z := Nat.mul_le_mul_right _ hm2
      have hmz : lo * z + m * z <= xs.length * z := by rw [<- Nat.add_mul]; exact Nat.mul_le_mul_right _ hlo
      have hxz : xs.length * z <= C.size := by
       have : xs.length * z <= cp * u.sz := by rw [hsz]; exact Nat.mul_le_mul_right _ k3
       omega
      have hcl : (cs.take (Nat.min ys.length m * z)).length = Nat.min ys.length m * z := by
       rw [List.length_take, g1, hsz, Nat.min_eq_left]
       exact Nat.mul_le_mul_right _ hm
      have hst := z4t (P := P) (o := lo * z) k4 k5 (vs := cs.take (Nat.min ys.length m * z)) (by rw [hcl]; omega) (fun v hv => g2 v (List.mem_of_mem_take hv))
      have hlen : (xs.take lo ++ (ys.take m ++ xs.drop (lo + min ys.length m))).length = xs.length := by
       have : min ys.length m <= m := hm2
       simp only [List.length_append, List.length_take, List.length_drop]; omega
      have hgo : ∃ B c2, a.eval x = .slice B m c2 /\ (((match (generalizing := false) B with | some a => storeCells a (cs.take (Nat.min ys.length m * z)) | none => pure () : Sem Unit).run P w) = .ok () (wr w b (y1u C (lo * z) (cs.take (Nat.min ys.length m * z))) T fz)) := by
       by_cases hcl : cp = lo
       ·rw [if_pos hcl] at he
        have hm0 : m = 0 := by omega
        have e0 : cs.take (Nat.min ys.length m * z) = [] := by rw [hm0, show Nat.min ys.length 0 = 0 from Nat.min_zero _, Nat.zero_mul]; rfl
        refine ⟨_, _, he, ?_⟩
        have := z4t (P := P) (o := 0) k4 k5 (vs := []) (by simp) (fun v hv => by cases hv)
        rw [e0]
        exact this
       ·rw [if_neg hcl] at he
        refine ⟨_, _, he, ?_⟩
        have e1 : (Option.map (fun x : Addr => x.add (lo * u.sz)) (some (⟨b, 0, none⟩ : Addr))) = some ⟨b, lo * z, none⟩ := by
         rw [hsz, Option.map_some]
         unfold Addr.add
         by_cases h0 : lo * z = 0
         ·rw [if_pos h0, h0]
         ·rw [if_neg h0, Nat.zero_add]
        rw [e1]
        exact hst
      obtain ⟨B, c2, he', hgo⟩ := hgo
      refine z3u (hrun he' hgo) ⟨i1 .i64 (min ys.length m : Nat), _, _, G, rfl, k.wr (ob' := .buf u (xs.take lo ++ (ys.take m ++ xs.drop (lo + min ys.length m)))) hob k2
        (.inr ⟨b, cp, y1u C (lo * z) (cs.take (Nat.min ys.length m * z)), T, fz, by rw [hlen]; exact k1, k2, by rw [hlen]; exact k3, y0j (Array.getElem?_eq_some_iff.1 k4).1, z78 (z3e ..) k5, by rw [z3e]; exact k6, fun i q hq => ?_⟩), zk4, h⟩
      have seg : ∀ (L : List Value) (i j : Nat), ((L.drop (i * z)).take z)[j]? = if j < z then L[i * z + j]? else none := fun L i j => by
       rw [List.getElem?_take, List.getElem?_drop]
      have hil : i < xs.length := by rw [<- hlen]; exact (List.getElem?_eq_some_iff.1 hq).1
      have hiz : i * z + z <= xs.length * z := by rw [<- Nat.succ_mul]; exact Nat.mul_le_mul_right _ hil
      have hR : Rd w G.I u q (((y1u C (lo * z) (cs.take (Nat.min ys.length m * z))).toList.drop (i * u.sz)).take u.sz) := by
       have hkx : min ys.length m = Nat.min ys.length m := rfl
       by_cases c1 : lo <= i /\ i < lo + Nat.min ys.length m
       ·have e2 : ys[i - lo]? = some q := by
         rw [List.getElem?_append_right (by rw [List.length_take]; omega), List.length_take, Nat.min_eq_left (show lo <= xs.length by omega), List.getElem?_append_left (by rw [List.length_take]; omega), List.getElem?_take_of_lt (by omega)] at hq
         exact hq
        have h3 := g3 _ q e2
        rw [hsz] at h3 ⊢
        have e3 : ((y1u C (lo * z) (cs.take (Nat.min ys.length m * z))).toList.drop (i * z)).take z = (cs.drop ((i - lo) * z)).take z := by
         refine List.ext_getElem? fun j => ?_
         rw [seg, seg]
         by_cases hj : j < z
         ·rw [if_pos hj, if_pos hj, Array.getElem?_toList, y7w, hcl]
          have e4 : i * z = lo * z + (i - lo) * z := by rw [<- Nat.add_mul]; congr 1; omega
          have e5 : (i - lo) * z + z <= Nat.min ys.length m * z := by rw [<- Nat.succ_mul]; exact Nat.mul_le_mul_right _ (by omega)
          rw [if_pos ⟨by omega, by omega, by omega⟩, List.getElem?_take_of_lt (by omega)]
          congr 1; omega
         ·rw [if_neg hj, if_neg hj]
        rw [e3]; exact h3
       ·have e2 : xs[i]? = some q := by
         by_cases c2 : i < lo
         ·rw [List.getElem?_append_left (by rw [List.length_take]; omega), List.getElem?_take_of_lt c2] at hq
          exact hq
         ·have c3 : lo + Nat.min ys.length m <= i := by omega
          have hyl : (ys.take m).length = Nat.min ys.length m := by rw [List.length_take]; exact Nat.min_comm _ _
          rw [List.getElem?_append_right (by rw [List.length_take]; omega), List.length_take, Nat.min_eq_left (show lo <= xs.length by omega), List.getElem?_append_right (by rw [hyl]; omega), hyl, List.getElem?_drop] at hq
          rw [<- hq]; congr 1; omega
        have h3 := k7 i q e2
        rw [hsz] at h3 ⊢
        have e3 : ((y1u C (lo * z) (cs.take (Nat.min ys.length m * z))).toList.drop (i * z)).take z = (C.toList.drop (i * z)).take z := by
         refine List.ext_getElem? fun j => ?_
         rw [seg, seg]
         by_cases hj : j < z
         ·have hno : ¬ (lo * z <= i * z + j /\ i * z + j < lo * z + Nat.min ys.length m * z /\ i * z + j < C.size) := by
           rintro ⟨q1, q2, _⟩
           rcases Nat.lt_or_ge i lo with c2 | c2
           ·have : i * z + z <= lo * z := by rw [<- Nat.succ_mul]; exact Nat.mul_le_mul_right _ c2
            omega
           ·have : (lo + Nat.min ys.length m) * z <= i * z := Nat.mul_le_mul_right _ (by omega)
            rw [Nat.add_mul] at this
            omega
          rw [if_pos hj, if_pos hj, Array.getElem?_toList, y7w, hcl, if_neg hno, Array.getElem?_toList]
         ·rw [if_neg hj, if_neg hj]
        rw [e3]; exact h3
      exact hR.mono (k.wr_I hob k2) fun _ h => h
    ·cases h
  ·cases h
 ·cases h
theorem yz7 (hE : EOk P E) {t : TypeId} (h : (E.ty? t).isSome = true) : ∃ d, P.underlying t = some d := by
 obtain ⟨u, hu⟩ := Option.isSome_iff_exists.1 h
 obtain ⟨ti, hti, _⟩ := z74 hu
 obtain ⟨_, ⟨d, hd, _⟩, _, _⟩ := hE.te t ti hti
 exact ⟨d, hd⟩
theorem yw7 (hE : EOk P E) (hP : ∀ b, Pr b -> b < w0.heap.size) (k : Rel Pr w0 stk s a.tmps w G) {src dst e : TypeId} {x : Operand} (ho : o.op = .convert src dst x) {d : TypeDesc} {b : ByteArray} (hs : P.underlying src = some d)
  (hx : a.eval x = .string b) (hk : E.kd? dst = some (.slice e)) (hu8 : E.ty? e = some (.int .u8)) (h : K (.one (.val (.slice (.int .u8)) (b.data.toList.map fun c => (c.toNat : Int)))) s = some r) :
  o.wp P a w (zb2 Pr w0 stk o a K r) Q := by
 have hrun := Go.Lib.run_convert_string_bytes (P := P) w src dst e b hs (z67 hE hk) (ym3 hE hu8)
 have hg : Grow w (Go.Lib.bytesWorld w e b) := ⟨rfl, rfl, rfl, by rw [Go.Lib.bytesWorld_size]; exact Nat.le_succ _, fun c hc => Go.Lib.bytesWorld_at_old w e b c hc⟩
 have hPw : ∀ b, Pr b -> b < w.heap.size := fun b hb => Nat.lt_of_lt_of_le (hP b hb) k.keep.size
 have k' := k.grow (I' := fun c => G.I c \/ c = w.heap.size) hPw hg (fun _ h => .inl h)
  (fun c hc => hc.elim (fun hc => Nat.lt_of_lt_of_le (k.isz c hc) hg.size) fun hc => by rw [Go.Lib.bytesWorld_size]; omega) (fun c hc => hc.elim .inl fun hc => .inr (by omega))
 refine z3u (x := .slice (some ⟨w.heap.size, 0, none⟩) b.size (grownCap w b.size 0 e)) (w' := Go.Lib.bytesWorld w e b) ?_ ⟨_, s, _, _, rfl, k', ?_, h⟩
 ·unfold execOp
  simp only [ho, hx, Sem.run_bind, hrun, Result.andThen_ok, Sem.run_pure]
 ·have hcap := grownCap_ge w b.size 0 e
  have hcs : (Go.Lib.bytesCells w e b).size = grownCap w b.size 0 e := by
   unfold Go.Lib.bytesCells
   simp only [Array.size_append, Array.size_map, Array.size_replicate]
   have : b.data.size = b.size := rfl
   omega
  refine ⟨rfl, _, _, _, rfl, by simp, hcap, .inr ⟨rfl, .inr rfl, _, _, _, Go.Lib.bytesWorld_at_new w e b, by rw [hcs]; simp [Ty.sz], fun i y hy => ?_⟩⟩
  show _ = [Value.int .u8 y]
  simp only [Ty.sz, Nat.mul_one, Nat.zero_add]
  rw [List.getElem?_map] at hy
  simp only [Option.map_eq_some_iff] at hy
  obtain ⟨c, hc, rfl⟩ := hy
  have hi := (List.getElem?_eq_some_iff.1 hc).1
  rw [List.take_one, List.head?_drop]
  unfold Go.Lib.bytesCells
  rw [Array.toList_append, List.getElem?_append_left (by simpa using hi), Array.toList_map, List.getElem?_map, hc]
  rfl
theorem yw8 (hE : EOk P E) (hP : ∀ b, Pr b -> b < w0.heap.size) (k : Rel Pr w0 stk s a.tmps w G) {src dst : TypeId} {x : Operand} (ho : o.op = .convert src dst x) (h : y73 E s src dst x K = some r) :
  o.wp P a w (zb2 Pr w0 stk o a K r) Q := by
 have fin : ∀ {v : AV} {y : Value}, (Go.convert src dst (a.eval x)).run P w = .ok y w -> ARd w G.I G.h v y -> K v s = some r -> o.wp P a w (zb2 Pr w0 stk o a K r) Q := by
  intro v y hy hv hK
  refine z0r k (x := y) ?_ hv hK
  unfold execOp
  simp only [ho, Sem.run_bind, hy, Result.andThen_ok, Sem.run_pure]
 unfold y73 at h
 split at h
 ·rename_i kk hd
  have hdu := ym3 hE hd
  split at h
  ·rename_i k' n he
   split at h
   ·rename_i hs
    obtain ⟨d, hsu⟩ := yz7 hE hs
    have hx : a.eval x = .int k' n := z4x (he ▸ k.ev x)
    refine fin (y := .int kk (kk.wrap n)) ?_ zk4 h
    unfold Go.convert
    simp [z2q hsu, z2q hdu, hx, Conv.intToInt]
   ·cases h
  ·cases h
 ·rename_i hd
  have hdu := yz8 hE hd
  split at h
  ·rename_i b he
   split at h
   ·rename_i hs
    obtain ⟨d, hsu⟩ := yz7 hE hs
    have hx : a.eval x = .string b := y14 (he ▸ k.ev x)
    refine fin (y := .string b) (v := .one (.val .str b)) ?_ ⟨rfl, rfl⟩ h
    unfold Go.convert
    simp [z2q hsu, z2q hdu, hx]
   ·cases h
  ·rename_i v hne he
   split at h
   ·rename_i e hk
    split at h
    ·rename_i hu8
     split at h
     ·rename_i xs hxs
      have kx : ARd w G.I G.h (.one v) (a.eval x) := he ▸ k.ev x
      have hr := yy8 k hxs kx.2
      obtain ⟨A, n, c, hx, hn, hr⟩ := hr
      simp only [List.cons.injEq, and_true] at hx
      have hb := run_convert_bytes_string (P := P) w src dst e A n c (z67 hE hk) (ym3 hE hu8) hdu
      refine fin (y := .string ⟨(List.map (fun (q : Int) => UInt8.ofNat q.toNat) xs).toArray⟩) (v := .one (.val .str ⟨(List.map (fun (q : Int) => UInt8.ofNat q.toNat) xs).toArray⟩)) ?_ ⟨rfl, rfl⟩ h
      rw [hx, hb]
      cases A with
      | none =>
       obtain ⟨rfl, _⟩ := hr
       simp [Conv.bytesToString]
       rfl
      | some b =>
       obtain ⟨q3, hr⟩ := hr
       rcases hr with q0 | ⟨q1, q2, C, T, fz, q4, q5, q6⟩
       ·obtain rfl : xs = [] := List.length_eq_zero_iff.1 (by omega)
        have hl := run_loadCells_list (P := P) (w := w) b (([] : List Int).map (Value.int .u8)) (fun j v hj => by simp at hj)
        rw [List.length_map, <- hn] at hl
        rw [run_bytesToString w b n c [] hl, y5u]
        rfl
       obtain ⟨bk, off, sp⟩ := b
       simp only at q1
       subst q1
       have hl := run_loadCells_list (P := P) (w := w) ⟨bk, off, none⟩ (xs.map (Value.int .u8)) (fun j v hj => by
         rw [addr_add, cell?_at q4]
         rw [List.getElem?_map] at hj
         simp only [Option.map_eq_some_iff] at hj
         obtain ⟨y, hy, rfl⟩ := hj
         have := q6 j y hy
         simp only [Ty.sz, Nat.mul_one] at this
         have this : (C.toList.drop (off + j)).take 1 = [Value.int .u8 y] := this
         rw [List.take_one, List.head?_drop] at this
         cases hc : C.toList[off + j]? with
         | none => rw [hc] at this; cases this
         | some z => rw [hc] at this; simp at this; rw [<- Array.getElem?_toList, hc, this])
       rw [List.length_map, <- hn] at hl
       rw [run_bytesToString w ⟨bk, off, none⟩ n c xs hl, y5u]
       rfl
     ·cases h
    ·cases h
   ·cases h
  ·cases h
 ·rename_i t hd
  split at h
  ·rename_i b he
   split at h
   ·rename_i hs
    obtain ⟨d, hsu⟩ := yz7 hE hs
    have hx : a.eval x = .string b := y14 (he ▸ k.ev x)
    split at h
    ·rename_i e hk
     split at h
     ·rename_i hu8
      split at h
      ·rename_i xs hxs
       obtain ⟨ee, rfl⟩ := z2w hxs
       cases ee
       exact yw7 hE hP k ho hsu hx hk hu8 h
      ·cases h
     ·cases h
    ·cases h
   ·cases h
  ·cases h
 ·cases h
end
end Vm
/- Contracts of functions, and calls by contract. -/
namespace Vm
open Go
def ValRd (w : World) (I : Nat -> Prop) (t : Ty) (x : t.den) (v : Value) : Prop :=
 Rd w I t x v.cells.toList /\ if t.agg then ∃ cs, v = .agg cs else cell1 v = true
def ArgsRd (w : World) (I : Nat -> Prop) : (ps : List Ty) -> yn2 ps -> List Value -> Prop
 | [], _, vs => vs = []
 | [t], x, vs => ∃ v, vs = [v] /\ ValRd w I t x v
 | t :: t' :: r, x, vs => ∃ v vs', vs = v :: vs' /\ ValRd w I t x.1 v /\ ArgsRd w I (t' :: r) x.2 vs'
def ResOne (w w' : World) (I : Nat -> Prop) : (r : RM) -> r.den -> Value -> List Nat -> Prop
 | .imm t, x, y, bs => bs = [] /\ ValRd w' I t x y
 | .fresh t, xs, y, bs => (y = .slice none 0 0 /\ xs = [] /\ bs = []) \/ ∃ b c C E fz, y = .slice (some ⟨b, 0, none⟩) xs.length c /\ bs = [b] /\ xs.length <= c /\ w'.heap[b]? = some (.cells C E fz) /\ yq5 C fz /\
   c * t.sz <= C.size /\ (∀ (i : Nat) (x : t.den), xs[i]? = some x -> Rd w' I t x ((C.toList.drop (i * t.sz)).take t.sz)) /\ w.heap.size <= b /\ ¬ I b
def ResAll (w w' : World) (I : Nat -> Prop) : (rs : List RM) -> yo5 rs -> List Value -> List Nat -> Prop
 | [], _, ys, bs => ys = [] /\ bs = []
 | [r], x, ys, bs => ∃ y, ys = [y] /\ ResOne w w' I r x y bs
 | r :: r' :: rs, x, ys, bs => ∃ y ys' b1 b2, ys = y :: ys' /\ bs = b1 ++ b2 /\ ResOne w w' I r x.1 y b1 /\ ResAll w w' I (r' :: rs) x.2 ys' b2
def packed : List Value -> Value
 | [y] => y
 | ys => .tuple ys.toArray
def Spec.holds (P : Program) (f : FuncId) (c : Spec) : Prop :=
 ∀ (w : World) (I : Nat -> Prop) (vs : Array Value) (x : yn2 c.ps) (r : yo5 c.rs), (∀ b, I b -> b < w.heap.size) -> ArgsRd w I c.ps x vs.toList -> c.f x = some r ->
  Calls P f vs w fun
   | .returned v, w' => Grow w w' /\ ∃ I' ys bs, v = packed ys /\ bs.Nodup /\ (∀ b, I b -> I' b) /\ (∀ b, I' b -> b < w'.heap.size /\ (I b \/ w.heap.size <= b)) /\ ResAll w w' I' c.rs r ys bs
   | _, _ => False
theorem ValRd.mono {w w' : World} {I I' : Nat -> Prop} (hw : ∀ b, I b -> w'.heap[b]? = w.heap[b]?) (hI : ∀ b, I b -> I' b) {t : Ty} {x : t.den} {v : Value} (h : ValRd w I t x v) : ValRd w' I' t x v :=
 ⟨h.1.mono hw hI, h.2⟩
theorem ArgsRd.mono {w w' : World} {I I' : Nat -> Prop} (hw : ∀ b, I b -> w'.heap[b]? = w.heap[b]?) (hI : ∀ b, I b -> I' b) : ∀ {ps : List Ty} {x : yn2 ps} {vs : List Value}, ArgsRd w I ps x vs -> ArgsRd w' I' ps x vs
 | [], _, _, h => h
 | [_], _, _, ⟨v, e, h⟩ => ⟨v, e, h.mono hw hI⟩
 | _ :: _ :: _, _, _, ⟨v, vs, e, h, k⟩ => ⟨v, vs, e, h.mono hw hI, ArgsRd.mono hw hI k⟩
theorem Rd.flat {w : World} {I I' : Nat -> Prop} : ∀ {t : Ty} {x : t.den} {cs : List Value}, t.deep = false -> Rd w I t x cs -> Rd w I' t x cs := by
 intro t
 induction t with
 | slice t => intro x cs h; simp [Ty.deep] at h
 | nsl t => intro x cs h; simp [Ty.deep] at h
 | ptr t => intro x cs h; simp [Ty.deep] at h
 | pair a b iha ihb =>
  rintro x cs h ⟨c1, c2, e, h1, h2⟩
  simp only [Ty.deep, Bool.or_eq_false_iff] at h
  exact ⟨c1, c2, e, iha h.1 h1, ihb h.2 h2⟩
 | arr n t ih =>
  rintro x cs h ⟨e, k⟩
  exact ⟨e, k.mono fun _ _ => ih h⟩
 | _ => exact fun _ h => h
theorem ResOne.flat {w w' : World} {I I' : Nat -> Prop} (hI : ∀ b, I' b -> b < w.heap.size) {r : RM} {x : r.den} {y : Value} {bs : List Nat} (hd : r.deep = false) (h : ResOne w w' I r x y bs) : ResOne w w' I' r x y bs := by
 cases r with
 | imm t => exact ⟨h.1, Rd.flat hd h.2.1, h.2.2⟩
 | fresh t =>
  rcases h with h | ⟨b, c, C, E, fz, h1, h2, h3, h4, h5, h6, h7, h8, h9⟩
  ·exact .inl h
  ·exact .inr ⟨b, c, C, E, fz, h1, h2, h3, h4, h5, h6, fun i x hx => Rd.flat hd (h7 i x hx), h8, fun h => Nat.lt_irrefl _ (Nat.lt_of_lt_of_le (hI b h) h8)⟩
theorem ResAll.flat {w w' : World} {I I' : Nat -> Prop} (hI : ∀ b, I' b -> b < w.heap.size) : ∀ {rs : List RM} {x : yo5 rs} {ys : List Value} {bs : List Nat}, rs.any RM.deep = false -> ResAll w w' I rs x ys bs -> ResAll w w' I' rs x ys bs
 | [], _, _, _, _, h => h
 | [r], _, _, _, hd, ⟨y, e, h⟩ => ⟨y, e, h.flat hI (by simpa using hd)⟩
 | r :: r' :: rs, _, _, _, hd, ⟨y, ys', b1, b2, e, e', h, k⟩ => by
  rw [List.any_cons, Bool.or_eq_false_iff] at hd
  exact ⟨y, ys', b1, b2, e, e', h.flat hI hd.1, ResAll.flat hI hd.2 k⟩
theorem ResOne.new {w w' : World} {I : Nat -> Prop} {r : RM} {x : r.den} {y : Value} {bs : List Nat} (h : ResOne w w' I r x y bs) : ∀ b, b ∈ bs -> w.heap.size <= b /\ ¬ I b := by
 intro b hb
 cases r with
 | imm t => rw [h.1] at hb; cases hb
 | fresh t =>
  rcases h with ⟨_, _, rfl⟩ | ⟨b', c, C, E, fz, h1, rfl, h3, h4, h5, h6, h7, h8, h9⟩
  ·cases hb
  ·rw [List.mem_singleton] at hb; subst hb; exact ⟨h8, h9⟩
theorem ResAll.new {w w' : World} {I : Nat -> Prop} : ∀ {rs : List RM} {x : yo5 rs} {ys : List Value} {bs : List Nat}, ResAll w w' I rs x ys bs -> ∀ b, b ∈ bs -> w.heap.size <= b /\ ¬ I b
 | [], _, _, _, h => by rw [h.2]; intro b hb; cases hb
 | [r], _, _, _, ⟨y, e, h⟩ => h.new
 | r :: r' :: rs, _, _, _, ⟨y, ys', b1, b2, e, e', h, k⟩ => by
  intro b hb
  rw [e', List.mem_append] at hb
  exact hb.elim (h.new b) (ResAll.new k b)
section
variable {ρ : Type} {P : Program} {E : Env} {Pr : Nat -> Prop} {w0 : St} {w w' : World} {stk : List (Array Value)} {s : MS} {a : Act} {G : Gh} {o : Oper} {Q : Exit -> Act -> World -> Prop} {K : AV -> MS -> Option ρ} {r : ρ} {tm : Array Value}
theorem y5n {t : Ty} {v : AV} {l : List LV} (h : v.asTy t = some l) : v.leaves? = some l /\ ∀ {I : Nat -> Prop} {hv : Hv} {x : Value}, ARd w I hv v x -> if t.agg then ∃ cs, x = .agg cs else cell1 x = true := by
 cases v with
 | one u =>
  simp only [AV.asTy] at h
  split at h
  ·cases h
  ·rename_i ht
   cases h
   refine ⟨rfl, fun h => ?_⟩
   rw [if_neg ht]; exact h.1
 | agg m =>
  simp only [AV.asTy] at h
  split at h
  ·rename_i ht
   cases h
   refine ⟨rfl, fun h => ?_⟩
   rw [if_pos ht]; obtain ⟨cs, e, _⟩ := h; exact ⟨cs, e⟩
  ·cases h
 | undef => cases h
 | tup m => cases h
theorem w9o (k : Rel Pr w0 stk s tm w G) : ∀ {ps : List Ty} {avs : List AV} {vs : List Value} {x : yn2 ps}, y6u s ps avs = some x -> avs.length = vs.length ->
  (∀ (i : Nat) (u : AV) (v : Value), avs[i]? = some u -> vs[i]? = some v -> ARd w G.I G.h u v) ->
  ArgsRd w (fun b => G.I b \/ ownB s G (avs.flatMap fun a => (a.leaves?).getD []) b) ps x vs
 | [], [], [], _, _, _, _ => rfl
 | [t], [u], [v], x, h, _, hr => by
  simp only [y6u, Option.bind_eq_some_iff] at h
  obtain ⟨l, hl, hx⟩ := h
  obtain ⟨h1, h2⟩ := y5n (w := w) hl
  have ku := hr 0 u v rfl rfl
  refine ⟨v, rfl, (z9s k hx (ku.leaves h1)).mono (fun _ _ => rfl) fun b hb => hb.imp id fun hb => ?_, h2 ku⟩
  exact y0b (fun q hq => by simpa [h1] using hq) hb
 | t :: t' :: ps, u :: us, v :: vs, x, h, hlen, hr => by
  simp only [y6u, Option.bind_eq_some_iff, Option.some.injEq] at h
  obtain ⟨y, ⟨l, hl, hy⟩, z, hz, rfl⟩ := h
  obtain ⟨h1, h2⟩ := y5n (w := w) hl
  have ku := hr 0 u v rfl rfl
  have e1 : ValRd w (fun b => G.I b \/ ownB s G ((u :: us).flatMap fun a => (a.leaves?).getD []) b) t y v :=
   ⟨(z9s k hy (ku.leaves h1)).mono (fun _ _ => rfl) fun b hb => hb.imp id fun hb => y0b (fun q hq => by rw [List.flatMap_cons, List.mem_append, h1]; exact .inl hq) hb, h2 ku⟩
  have e2 := (w9o k hz (by simpa using hlen) fun i u v hu hv => hr (i + 1) u v hu hv).mono (I' := fun b => G.I b \/ ownB s G ((u :: us).flatMap fun a => (a.leaves?).getD []) b) (fun _ _ => rfl)
   fun b hb => hb.imp id fun hb => y0b (fun q hq => by rw [List.flatMap_cons, List.mem_append]; exact .inr hq) hb
  exact ⟨v, vs, rfl, e1, e2⟩
 | [], _ :: _, _, _, h, _, _ => by simp [y6u] at h
 | [], [], _ :: _, _, _, hlen, _ => by simp at hlen
 | [_], [], _, _, h, _, _ => by simp [y6u] at h
 | [_], _ :: _ :: _, _, _, h, _, _ => by simp [y6u] at h
 | [_], [_], [], _, _, hlen, _ => by simp at hlen
 | [_], [_], _ :: _ :: _, _, _, hlen, _ => by simp at hlen
 | _ :: _ :: _, [], _, _, h, _, _ => by simp [y6u] at h
 | _ :: _ :: _, _ :: _, [], _, _, hlen, _ => by simp at hlen
def v0v (s : MS) (G : Gh) (b : Nat) : Prop := ∃ id ob, s.obj id = some ob /\ b ∈ G.bs id
theorem w6v {l : List LV} {b : Nat} : ownB s G l b -> v0v s G b := fun ⟨_, _, id, _, ⟨o, _, ho, _⟩, hb⟩ => ⟨id, o, ho, hb⟩
theorem wv5 (k : Rel Pr w0 stk s tm w G) {b : Nat} (h : v0v s G b) : b < w.heap.size := by
 obtain ⟨id, o, ho, hb⟩ := h
 exact (k.sep id o b ho hb).2.2
theorem w7x (k : Rel Pr w0 stk s tm w G) {t : Ty} {u : AV} {v : Value} {x : t.den} (h : (u.asTy t).bind (zt9 s t) = some x) (ku : ARd w G.I G.h u v) : ValRd w (fun b => G.I b \/ v0v s G b) t x v := by
 simp only [Option.bind_eq_some_iff] at h
 obtain ⟨l, hl, hx⟩ := h
 obtain ⟨h1, h2⟩ := y5n (w := w) hl
 exact ⟨(z9s k hx (ku.leaves h1)).mono (fun _ _ => rfl) fun b hb => hb.imp id w6v, h2 ku⟩
theorem w9n (k : Rel Pr w0 stk s tm w G) {t : Ty} {u : AV} {v : Value} {x : t.den} (h : v2a s t u = some x) (ku : ARd w G.I G.h u v) : ValRd w (fun b => G.I b \/ v0v s G b) t x v := by
 unfold v2a at h
 split at h
 ·rename_i t id off
  split at h
  ·rename_i l hob
   split at h
   ·rename_i m hm
    obtain ⟨p, q, e1, e2, e3⟩ := zz4 hm
    obtain ⟨hc, b, hid, hv⟩ := ku
    simp only [List.cons.injEq, and_true] at hv
    subst hv
    obtain ⟨b', C, T, fz, g1, g2, g3, g4, g5⟩ := k.ob id _ hob
    rw [hid] at g1
    cases g1
    rw [e1] at g5
    obtain ⟨m1, m2⟩ := g5.mid
    rw [e2, e3] at m1
    refine ⟨⟨⟨b, off, none⟩, C, T, fz, by simp [Value.cells], rfl, .inr ⟨id, _, hob, by rw [g2]; simp⟩, g3, by rw [e2, e3] at m2; simpa using m2, ?_⟩, ?_⟩
    ·exact (z9s k h m1).mono (fun _ _ => rfl) fun b hb => hb.imp (fun h => h) w6v
    ·simp [Ty.agg, cell1]
   ·cases h
  ·cases h
 ·exact w7x k h ku
theorem w5p (k : Rel Pr w0 stk s tm w G) : ∀ {ps : List Ty} {avs : List AV} {vs : List Value} {x : yn2 ps}, w0x s ps avs = some x -> avs.length = vs.length ->
  (∀ (i : Nat) (u : AV) (v : Value), avs[i]? = some u -> vs[i]? = some v -> ARd w G.I G.h u v) ->
  ArgsRd w (fun b => G.I b \/ v0v s G b) ps x vs
 | [], [], [], _, _, _, _ => rfl
 | [t], [u], [v], x, h, _, hr => ⟨v, rfl, w9n k h (hr 0 u v rfl rfl)⟩
 | t :: t' :: ps, u :: us, v :: vs, x, h, hlen, hr => by
  simp only [w0x, Option.bind_eq_some_iff, Option.some.injEq] at h
  obtain ⟨y, hy, z, hz, rfl⟩ := h
  exact ⟨v, vs, rfl, w9n k hy (hr 0 u v rfl rfl), w5p k hz (by simpa using hlen) fun i u v hu hv => hr (i + 1) u v hu hv⟩
 | [], _ :: _, _, _, h, _, _ => by simp [w0x] at h
 | [], [], _ :: _, _, _, hlen, _ => by simp at hlen
 | [_], [], _, _, h, _, _ => by simp [w0x] at h
 | [_], _ :: _ :: _, _, _, h, _, _ => by simp [w0x] at h
 | [_], [_], [], _, _, hlen, _ => by simp at hlen
 | [_], [_], _ :: _ :: _, _, _, hlen, _ => by simp at hlen
 | _ :: _ :: _, [], _, _, h, _, _ => by simp [w0x] at h
 | _ :: _ :: _, _ :: _, [], _, _, hlen, _ => by simp at hlen
end
end Vm
