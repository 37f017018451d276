/- A small machine over the model, and that its runs tell what the model does: part 4. -/
import Derived.Test.YtcdcoeofhnfjdabGreatDoorVmC
import Derived.KernelRfl
import Derived.OpenShut
import Derived.SizedLaws
import Derived.ChangeArms
import Derived.Carry
import Derived.RowKit
import Derived.ChangeShapes
import Derived.ChangeOld
import Derived.Handed
import Derived.LaidMore
import Derived.Stop.Joined
import Derived.JoinedCond
import Derived.IntWalk
import Derived.Laws.Strings
import Derived.Shelf.Strings.OnBuilder
import Derived.Shelf.Strings.Count
import Derived.Shelf.Strings.Search2
import Derived.Shelf.Strings.Search3
import Derived.Shelf.Small.Strs
/- Slice literals that are carried out at any time. -/
namespace Vm
open Go
def yq6 (P : Program) (o : Oper) (a : Act) (hd : Nat -> Value) (C : Array Value) (e : TypeId) : Prop :=
 ∀ wb, (execOp a.eval o).run P wb = .ok (.value (hd wb.heap.size)) (push wb (.cells C e))
def v2g (n c : Nat) : Nat -> Value := fun b => .slice (some ⟨b, 0, none⟩) n c
def v2v : Nat -> Value := fun b => .pointer (some ⟨b, 0, none⟩)
section
variable {P : Program} {E : Env} {Pr : Nat -> Prop} {w0 : St} {w : World} {stk : List (Array Value)} {s : MS} {a : Act} {G : Gh} {o : Oper}
theorem w2i (hE : EOk P E) {t : TypeId} {ti : TI} (h : E.ti t = some ti) : ∃ z, (∀ w, (zeroValue t).run P w = .ok z w) /\ ∀ w I, Rd w I ti.ty ti.ty.zero z.cells.toList := by
 obtain ⟨i, hi, _, _, z, hz, _, h2, _⟩ := (hE.te t ti h).info
 exact ⟨z, fun w => by simp [zeroValue, typeInfo, hi, hz], h2⟩
theorem wo0 (hE : EOk P E) (k : Rel Pr w0 stk s a.tmps w G) {u : Ty} {xs : List u.den} (h : wd0 E s o = some ⟨u, xs⟩) :
  ∃ C e, yq6 P o a (v2g xs.length xs.length) C e /\ C.size = xs.length * u.sz /\ ∀ (i : Nat) (x : u.den), xs[i]? = some x -> Rd w G.I u x ((C.toList.drop (i * u.sz)).take u.sz) := by
 unfold wd0 at h
 split at h
 ·rename_i t len parts ho
  split at h
  ·rename_i e ps hk hp
   split at h
   ·rename_i u' hu
    split at h
    ·rename_i hc
     simp only [Bool.and_eq_true, decide_eq_true_eq, List.all_eq_true] at hc
     obtain ⟨⟨⟨hall, h0⟩, hbig⟩, hfl⟩ := hc
     obtain ⟨xs', hx, hxe⟩ := Option.map_eq_some_iff.1 h
     cases hxe
     obtain ⟨ti, hti, rfl⟩ := z74 hu
     obtain ⟨z, hz, hz2⟩ := w2i hE hti
     have hzs : z.cells.size = ti.ty.sz := by have := (hz2 w G.I).length; simpa using this
     obtain ⟨cells', g1, g2, g3⟩ := y8m k hp hall hx (cells := (Array.range (len * ti.ty.sz)).map fun j => z.cells[j % z.cells.size]!) (by simp)
      (fun i hi w I => by rw [y1b hzs h0 hi]; exact hz2 w I)
     have hxl := (zj3 hx).1
     refine ⟨cells', e, fun wb => ?_, by rw [hxl]; exact g2, fun i x hi => (g3 i x hi).mono (fun _ _ => rfl) fun b hb => hb.elim id ?_⟩
     ·rw [hxl]
      unfold execOp
      have hsz := zg6 (w := wb) hE (t := e) (z := ti.ty.sz) (by simp [Env.sz, hu])
      simp only [ho, Instr.buildSlice, Sem.run_bind, z2q (z67 hE hk), Result.andThen_ok, hsz]
      rw [if_neg (by omega)]
      by_cases e0 : len * ti.ty.sz = 0
      ·rw [if_pos e0]
       rw [e0] at g1
       have e1 : (Array.map (fun x => (#[] : Array Value)[x % (#[] : Array Value).size]!) (Array.range (len * ti.ty.sz))) = (Array.range 0).map fun j => z.cells[j % z.cells.size]! := by rw [e0]; simp
       simp only [pure_bind, Array.toList_map, e1, g1, Sem.run_bind, zc6, Result.andThen_ok, Sem.run_pure]
       rfl
      ·rw [if_neg e0]
       simp only [Sem.run_bind, hz wb, Result.andThen_ok, pure_bind, Array.toList_map, g1, zc6, Sem.run_pure]
       rfl
     ·rintro ⟨v, hv, id, hid, _⟩
      have := hfl v hv
      rw [List.isEmpty_iff.1 this] at hid
      cases hid
    ·cases h
   ·cases h
  ·cases h
 ·cases h
def St.re (mk : Bool) (w0 : St) (w' : World) (b : Nat) : St := { toWorld := w', I0 := fun x => if mk then w0.I0 x /\ x ≠ b else w0.I0 x \/ x = b, h0 := w0.h0 }
theorem Rel.rebase (mk : Bool) (hP : ∀ b, Pr b -> b < w0.heap.size) (k : Rel Pr w0 stk s a.tmps w G) (C : Array Value) (e : TypeId) :
  Rel (fun x => Pr x \/ x = w.heap.size) (w0.re mk (push w (.cells C e)) w.heap.size) stk s a.tmps (push w (.cells C e)) G := by
 have hP' : ∀ b, Pr b -> b < w.heap.size := fun b hb => Nat.lt_of_lt_of_le (hP b hb) k.keep.size
 have k' : Rel Pr w0 stk s a.tmps (push w (.cells C e)) G :=
  k.grow (I' := G.I) hP' (zt6 _ _) (fun _ h => h) (fun b hb => Nat.lt_of_lt_of_le (k.isz b hb) (zt6 w (.cells C e)).size) fun b hb => .inl hb
 refine ⟨Keep.refl _ _, fun b hb hi => ?_, k'.isz, k'.ob,
   fun id o b h hb => ⟨fun hp => hp.elim (k'.sep id o b h hb).1 fun e => Nat.lt_irrefl _ (e ▸ (k.sep id o b h hb).2.2), (k'.sep id o b h hb).2⟩, k'.dis, k'.slots, k'.saved, k'.pin⟩
 have hlt := k.isz b hi
 have hI : w0.I0 b := hb.elim (fun h => k.old b h hi) fun e => absurd hlt (by rw [e]; exact Nat.lt_irrefl _)
 show if mk then w0.I0 b /\ b ≠ w.heap.size else w0.I0 b \/ b = w.heap.size
 cases mk with
 | true => exact ⟨hI, Nat.ne_of_lt hlt⟩
 | false => exact .inl hI
structure Base (P0 : Nat -> Prop) (w00 : St) (Pr : Nat -> Prop) (w0 : St) : Prop where
 sub : ∀ x, P0 x -> Pr x
 keep : Keep P0 w00.toWorld w0.toWorld
 old : ∀ x, P0 x -> w0.I0 x -> w00.I0 x
 h0 : w0.h0 = w00.h0
theorem Base.refl (Pr : Nat -> Prop) (w0 : St) : Base Pr w0 Pr w0 := ⟨fun _ h => h, Keep.refl _ _, fun _ _ h => h, rfl⟩
theorem Rel.base {P0 : Nat -> Prop} {w00 : St} (b : Base P0 w00 Pr w0) {s : MS} {tm : Array Value} (k : Rel Pr w0 stk s tm w G) : Rel P0 w00 stk s tm w G :=
 ⟨b.keep.trans k.keep fun x h => b.sub x h, fun x h hi => b.old x h (k.old x (b.sub x h) hi), k.isz, k.ob,
   fun id o x h hx => ⟨fun hp => (k.sep id o x h hx).1 (b.sub x hp), (k.sep id o x h hx).2⟩, k.dis, k.slots, k.saved, fun i hi => by rw [<- b.h0]; exact k.pin i hi⟩
theorem Base.re {P0 : Nat -> Prop} {w00 : St} (mk : Bool) (b : Base P0 w00 Pr w0) (hP : ∀ b, Pr b -> b < w0.heap.size) (k : Rel Pr w0 stk s a.tmps w G) (C : Array Value) (e : TypeId) :
  Base P0 w00 (fun x => Pr x \/ x = w.heap.size) (w0.re mk (push w (.cells C e)) w.heap.size) := by
 have hP' : ∀ b, Pr b -> b < w.heap.size := fun b hb => Nat.lt_of_lt_of_le (hP b hb) k.keep.size
 have hg := zt6 w (.cells C e)
 have h1 : Keep Pr w0.toWorld (push w (.cells C e)) := k.keep.trans ⟨hg.os, hg.tape, hg.output, hg.size, fun b hb => hg.block b (hP' b hb)⟩ fun _ h => h
 refine ⟨fun x h => .inl (b.sub x h), b.keep.trans h1 fun x h => b.sub x h, fun x h hi => b.old x h ?_, b.h0⟩
 have hi : if mk then w0.I0 x /\ x ≠ w.heap.size else w0.I0 x \/ x = w.heap.size := hi
 cases mk with
 | true => exact hi.1
 | false => exact hi.elim id fun e => absurd (hP' x (b.sub x h)) (by rw [e]; exact Nat.lt_irrefl _)
theorem Rel.land (k : Rel Pr w0 stk s a.tmps w G) {b : Nat} (hb : Pr b) (hb0 : w0.I0 b) {C : Array Value} {e : TypeId} (hw : w.heap[b]? = some (.cells C e)) {u : Ty} {xs : List u.den} (hC : C.size = xs.length * u.sz)
  (hx : ∀ (i : Nat) (x : u.den), xs[i]? = some x -> Rd w G.I u x ((C.toList.drop (i * u.sz)).take u.sz)) {d : Nat} (hd : d < a.tmps.size) :
  ∃ G', Rel Pr w0 stk (s.put (some d) (.one (.val (.slice u) xs))) (a.put (some d) (.slice (some ⟨b, 0, none⟩) xs.length xs.length)).tmps w G' := by
 have hlt : b < w.heap.size := (Array.getElem?_eq_some_iff.1 hw).1
 have k' : Rel Pr w0 stk s a.tmps w { G with I := fun x => G.I x \/ x = b } :=
  k.mono (Keep.refl _ _) (fun _ _ => rfl) (fun _ h => .inl h) (fun x hx => hx.elim (k.isz x) fun e => e ▸ hlt)
   (fun id o x h hxb => ⟨rfl, fun hi => hi.elim (k.sep id o x h hxb).2.1 fun e => (k.sep id o x h hxb).1 (e ▸ hb)⟩) fun x hp hi => hi.elim (k.old x hp) fun e => e ▸ hb0
 refine ⟨_, k'.putO (a := a) (d := some d) (fun t ht => by cases ht; exact hd) ?_⟩
 refine ⟨rfl, some ⟨b, 0, none⟩, xs.length, xs.length, rfl, rfl, Nat.le_refl _, .inr ⟨rfl, .inr rfl, C, e, _, hw, by simp [hC], fun i x hi => ?_⟩⟩
 have := hx i x hi
 rw [Nat.zero_add]
 exact this.mono (fun _ _ => rfl) fun _ h => .inl h
def v3l (w : World) (I : Nat -> Prop) (o : Oper) (hd : Nat -> Value) (C : Array Value) (e : TypeId) : Fl -> Prop
 | .data u xs => ze2 o = false /\ hd = v2g xs.length xs.length /\ C.size = xs.length * u.sz /\ ∀ (i : Nat) (x : u.den), xs[i]? = some x -> Rd w I u x ((C.toList.drop (i * u.sz)).take u.sz)
 | .obj _ ptr ob => ze2 o = true /\ (∀ i, ob.has i = false) /\ ∀ (w' : World) (G' : Gh) (nm b : Nat), w'.heap[b]? = some (.cells C e) ->
   Ob w' (G'.at nm (hd b) [b]) nm ob /\ ARd w' G'.I (G'.at nm (hd b) [b]).h (.one (if ptr then .pbox nm 0 else .own nm)) (hd b)
theorem wo6 {v : LV} (h : v.refs.isEmpty = true) (i : Nat) : v.has i = false := by
 cases v <;> first | rfl | (simp [LV.refs] at h)
theorem v0k {t e : TypeId} {te : TI} (hte : E.ti e = some te) {l c : Int} (h1 : l <= c) {C : Array Value} {z : Value} (g2 : C.size = c.toNat * te.ty.sz)
  (g3 : ∀ i, i < c.toNat -> ((C.toList.drop (i * te.ty.sz)).take te.ty.sz) = z.cells.toList) (g4 : ∀ w I, Rd w I te.ty te.ty.zero z.cells.toList) (g5 : ∀ l, E.zeroL 20 e = some l -> ∀ w I h, LsRd w I h l z.cells.toList)
  (w' : World) (G' : Gh) (nm b : Nat) (hw : w'.heap[b]? = some (.cells C e)) (fl : Bool) : Ob w' (G'.at nm (v2g l.toNat c.toNat b) [b]) nm (zl9 fl te.kd te.ty l.toNat) := by
 have hlc : l.toNat <= c.toNat := Int.toNat_le_toNat h1
 unfold zl9
 split
 ·rename_i e' u _ hkd hty
  have hzl : E.zeroL 20 e = some [.nil] := by simp [Env.zeroL, hte, hkd]
  have hzc : z.cells.toList = [.slice none 0 0] := by
   obtain ⟨c1, c2, e1, e2, e3⟩ := g5 _ hzl w' (fun _ => True) (fun _ => none)
   rw [e1, show c1 = _ from e2, show c2 = _ from e3]; rfl
  have hsz : te.ty.sz = 1 := by rw [hty]; rfl
  rw [hsz, Nat.mul_one] at g2
  refine ⟨b, c.toNat, C, e, (0, 0), fun _ => [], by rw [List.length_replicate]; exact y1x .., by rw [List.length_replicate]; exact hlc, by omega, hw, yi9 _, by rw [zu0]; simp, fun i _ b' hb' => (by cases hb'), fun i j _ _ _ b' hb' => (by cases hb'), fun i x hx _ => ?_, fun _ _ => rfl⟩
  rw [List.getElem?_replicate] at hx
  split at hx
  ·rename_i hi
   cases hx
   have h3 := g3 i (by omega)
   rw [hsz, Nat.mul_one, hzc, one_cell (by omega)] at h3
   simp only [List.cons.injEq, and_true] at h3
   exact .inl ⟨h3, rfl, rfl⟩
  ·cases hx
 ·refine .inr ⟨b, c.toNat, C, e, (0, 0), by rw [List.length_replicate]; exact y1x .., zu0 .., by rw [List.length_replicate]; exact hlc, hw, yi9 _, by omega, fun i x hx => ?_⟩
  rw [List.getElem?_replicate] at hx
  split at hx
  ·cases hx; rw [g3 i (by omega)]; exact g4 _ _
  ·cases hx
theorem yi7 (hE : EOk P E) (k : Rel Pr w0 stk s a.tmps w G) {fl : Fl} (h : yi6 E s o = some fl) (hok : fl.ok = true) : ∃ hd C e, yq6 P o a hd C e /\ v3l w G.I o hd C e fl := by
 unfold yi6 at h
 split at h
 ·rename_i t ho
  obtain ⟨l, hl, h⟩ := Option.bind_eq_some_iff.1 h
  split at h
  ·rename_i hall
   cases h
   rw [List.all_eq_true] at hall
   obtain ⟨ti, hti⟩ := w7l hl
   obtain ⟨i, hi, _, _, z, hzi, _, _, hz3⟩ := (hE.te t ti hti).info
   have hz : ∀ w, (zeroValue t).run P w = .ok z w := fun w => by simp [zeroValue, typeInfo, hi, hzi]
   refine ⟨v2v, z.cells, t, fun wb => ?_, by simp [ze2, ho], fun i => ?_, fun w' G' nm b hw => ⟨⟨b, z.cells, t, (0, 0), y1x .., zu0 .., hw, yi9 _, hz3 l hl _ _ _⟩, rfl, b, y1x .., rfl⟩⟩
   ·unfold execOp
    simp only [ho, Instr.alloc, Sem.run_bind, hz, Result.andThen_ok, y94, Sem.run_pure]
    rfl
   ·show (l.any fun v => v.has i) = false
    rw [List.any_eq_false]
    intro v hv
    rw [wo6 (hall v hv) i]; simp
  ·cases h
 ·rename_i t len cap ho
  have kl := k.ev len
  have kc := k.ev cap
  split at h
  ·rename_i e l c hk el ec
   rw [el] at kl; rw [ec] at kc
   have vl := z4x kl
   have vc := z4x kc
   split at h
   ·rename_i te hte
    split at h
    ·rename_i hst
     ·cases h
      have h012 := of_decide_eq_true (show decide (0 <= l /\ l <= c /\ c * te.bytes <= 281474976710656) = true from hok)
      obtain ⟨h0, h1, h2⟩ := h012
      obtain ⟨C, z, g1, g2, g3, g4, g5⟩ := run_makeSlice w hE hk hte hst.1 hst.2 h0 h1 h2
      refine ⟨v2g l.toNat c.toNat, C, e, fun wb => ?_, by simp [ze2, ho], fun i => yn0 _ _ _ _ _, fun w' G' nm b hw => ⟨v0k (t := t) hte h1 g2 g3 g4 g5 w' G' nm b hw _, rfl, _, _, _, y1x .., rfl⟩⟩
      unfold execOp
      simp only [ho, vl, vc, Sem.run_bind, g1 wb, Result.andThen_ok, Sem.run_pure]
      rfl
    ·cases h
   ·cases h
  ·cases h
 ·rename_i hna hnm
  obtain ⟨p, hp, rfl⟩ := Option.map_eq_some_iff.1 h
  obtain ⟨C, e, g1, g2, g3⟩ := wo0 hE k (u := p.1) (xs := p.2) hp
  refine ⟨_, C, e, g1, ?_, rfl, g2, g3⟩
  unfold ze2
  split
  ·rename_i t ho; exact absurd ho (hna t)
  ·rename_i t l c ho; exact absurd ho (hnm t l c)
  ·rfl
end
end Vm
/- Regions whose order is drawn, with slice literals that float. -/
namespace Vm
open Go
theorem zp1 : ∀ (l : List Nat) (A : Array Bool) (k : Nat), (z2r l A)[k]? = if k ∈ l then (A[k]?).map fun _ => true else A[k]?
 | [], A, k => by simp [z2r]
 | i :: l, A, k => by
  have h := zp1 l (A.setIfInBounds i true) k
  rw [show z2r (i :: l) A = z2r l (A.setIfInBounds i true) from rfl, h]
  by_cases e : i = k
  ·subst e
   have h1 : i ∈ i :: l := List.mem_cons_self ..
   rw [if_pos h1, Array.getElem?_setIfInBounds_self]
   by_cases hs : i < A.size
   ·simp [hs]
   ·simp [hs]
  ·have h1 : k ∈ i :: l ↔ k ∈ l := by simp [Ne.symm e]
   rw [Array.getElem?_setIfInBounds_ne e]
   simp only [h1]
theorem y95 {l l' : List Nat} (A : Array Bool) (h : ∀ k, k ∈ l ↔ k ∈ l') : z2r l A = z2r l' A := by
 apply Array.ext_getElem?
 intro k
 rw [zp1, zp1]
 simp only [h]
theorem y80 (l l' : List Nat) (A : Array Bool) : z2r (l ++ l') A = z2r l' (z2r l A) := by
 unfold z2r; rw [List.foldl_append]
theorem y68 (l : List Nat) (i : Nat) (A : Array Bool) : (z2r l A).setIfInBounds i true = z2r (l ++ [i]) A := by
 rw [y80]; rfl
theorem y0g {l : List Nat} {A : Array Bool} {k : Nat} (h : k ∉ l) (d : Bool) : (z2r l A).getD k d = A.getD k d := by
 simp only [Array.getD_eq_getD_getElem?, zp1, if_neg h]
theorem y3i {ops : Array Oper} : ∀ (l : List Nat) (A : Array Bool) {j : Nat}, j ∈ Region.ready .any ops A -> j ∉ l -> j ∈ Region.ready .any ops (z2r l A)
 | [], _, _, h, _ => h
 | i :: l, A, j, h, hn => y3i l (A.setIfInBounds i true) (ready_mono h fun e => hn (e ▸ List.mem_cons_self ..)) fun hm => hn (List.mem_cons_of_mem _ hm)
theorem y5p {ops : Array Oper} : ∀ (l : List Nat) (A : Array Bool), Down ops A -> (∀ i, i ∈ l -> i ∈ Region.ready .any ops A) -> l.Nodup -> Down ops (z2r l A)
 | [], _, h, _, _ => h
 | i :: l, A, h, hr, hn =>
  have hn := List.nodup_cons.1 hn
  y5p l (A.setIfInBounds i true) (zi4 h (hr i (List.mem_cons_self ..))) (fun j hj => ready_mono (hr j (List.mem_cons_of_mem _ hj)) fun e => hn.1 (e ▸ hj)) hn.2
theorem wi1 {ops : Array Oper} {l l' : List Nat} {A : Array Bool} (h : ∀ k, k ∈ l -> k ∈ l') {j : Nat} (hj : j ∈ Region.ready .any ops (z2r l A)) : j ∈ l' \/ j ∈ Region.ready .any ops (z2r l' A) := by
 by_cases hl : j ∈ l'
 ·exact .inl hl
 ·refine .inr ?_
  obtain ⟨h1, o, h2, h3⟩ := mem_ready.1 hj
  refine mem_ready.2 ⟨?_, o, h2, fun e he hb => ?_⟩
  ·rw [y0g hl]; rw [y0g (fun hm => hl (h _ hm))] at h1; exact h1
  ·have := h3 e he hb
   by_cases hm : e.on ∈ l'
   ·simp only [Array.getD_eq_getD_getElem?, zp1] at this ⊢
    rw [if_pos hm]
    by_cases hm' : e.on ∈ l
    ·rw [if_pos hm'] at this; exact this
    ·rw [if_neg hm'] at this
     cases hc : A[e.on]? with
     | none => rw [hc] at this; cases this
     | some x => rfl
   ·rw [y0g hm]; rw [y0g (fun hm' => hm (h _ hm'))] at this; exact this
end Vm
/- Whatever order: what each operation keeps. -/
namespace Vm
open Go
def y87 (P : Program) (E : Env) (ops : Array Oper) (Q : Exit -> Act -> World -> Prop) (D : Nat -> Prop) : Nat -> Array Bool -> Act -> World -> Prop
 | 0, listed, a, w => Region.ready .any ops listed = [] /\ Q .normal a w
 | fuel + 1, listed, a, w =>
  (Region.ready .any ops listed = [] -> Q .normal a w) /\
  ∀ i ∈ Region.ready .any ops listed, wpOp P ops Q i (fun a' w' => ((∀ o, ops[i]? = some o -> w31 E o = true -> Grow w w') /\ ∀ b, D b -> w'.heap[b]? = w.heap[b]?) /\
    y87 P E ops Q D fuel (listed.setIfInBounds i true) a' w') a w
section
variable {P : Program} {E : Env} {ops : Array Oper} {Q : Exit -> Act -> World -> Prop} {D D' : Nat -> Prop}
theorem yu3 : ∀ (fuel : Nat) (listed : Array Bool) (a : Act) (w : World), y87 P E ops Q D fuel listed a w -> wpAny P .any ops Q fuel listed a w
 | 0, _, _, _, h => h
 | fuel + 1, _, _, _, h => ⟨h.1, fun i hi => wpOp_mono (fun a' w' h' => yu3 fuel _ a' w' h'.2) (h.2 i hi)⟩
theorem ym7 (hD : ∀ b, D' b -> D b) : ∀ (fuel : Nat) (listed : Array Bool) (a : Act) (w : World), y87 P E ops Q D fuel listed a w -> y87 P E ops Q D' fuel listed a w
 | 0, _, _, _, h => h
 | fuel + 1, _, _, _, h => ⟨h.1, fun i hi => wpOp_mono (fun a' w' h' => ⟨⟨h'.1.1, fun b hb => h'.1.2 b (hD b hb)⟩, ym7 hD fuel _ a' w' h'.2⟩) (h.2 i hi)⟩
theorem ym6 {listed : Array Bool} {a : Act} {w : World} (hr : Region.ready .any ops listed = []) (h : Q .normal a w) : ∀ fuel, y87 P E ops Q D fuel listed a w
 | 0 => ⟨hr, h⟩
 | _ + 1 => ⟨fun _ => h, by rw [hr]; simp⟩
theorem yb1 {S : World -> World -> Prop} {i : Nat} {oi : Oper} {v : Value} (hi : ops[i]? = some oi) (hsel : ∀ (j : Nat) (o : Oper) cs b, ops[j]? = some o -> o.op ≠ .select cs b)
  (hQ : ∀ c a w, ¬ Q (.panic c) a w) (hS0 : ∀ w, S w w) :
  ∀ (fuel : Nat) (listed : Array Bool) (a : Act) (w : World), Down ops listed ->
   (∀ j oj, ops[j]? = some oj -> j ≠ i -> listed.getD j true = false -> ¬ Bef ops j i -> oi.apart ops oj = true /\
     ∀ w w' w2, (w31 E oj = true -> Grow w w') -> (∀ b, D b -> w'.heap[b]? = w.heap[b]?) -> S w' w2 -> S w w2) ->
   i ∈ Region.ready .any ops listed -> YieldsIf P ops (S w) oi v a ->
   y87 P E ops Q D fuel (listed.setIfInBounds i true) (a.put oi.dst v) w -> y87 P E ops Q D (fuel + 1) listed a w := by
 intro fuel
 induction fuel with
 | zero =>
  intro listed a w _ _ hr hy H
  refine ⟨fun h => (by rw [h] at hr; cases hr), fun j hj => ?_⟩
  by_cases hji : j = i
  ·subst hji; exact hy.wpOp hi (hS0 w) ⟨⟨fun _ _ _ => Grow.refl w, fun _ _ => rfl⟩, H⟩
  ·have := ready_mono hj hji
   rw [H.1] at this
   cases this
 | succ fuel ih =>
  intro listed a w hdn hfree hr hy H
  refine ⟨fun h => (by rw [h] at hr; cases hr), fun j hj => ?_⟩
  by_cases hji : j = i
  ·subst hji; exact hy.wpOp hi (hS0 w) ⟨⟨fun _ _ _ => Grow.refl w, fun _ _ => rfl⟩, H⟩
  ·have h1 := H.2 j (ready_mono hj hji)
   obtain ⟨hjun, oj, hoj, hall⟩ := mem_ready.1 hj
   have hnot : ¬ Bef ops j i := fun hb => by
    have h1 := y7x hdn hj hb
    have h0 := (mem_ready.1 hr).1
    rcases Nat.lt_or_ge i listed.size with h' | h'
    ·simp [h'] at h0 h1; rw [h0] at h1; cases h1
    ·simp [Array.getElem?_eq_none h'] at h1
   obtain ⟨hap, hany⟩ := hfree j oj hoj hji hjun hnot
   have h2 := wpOp_putIf hoj hap (fun cs b => hsel i oi cs b hi) (fun cs b => hsel j oj cs b hoj) (fun c a w h => absurd h (hQ c _ w)) hy h1
   refine wpOp_mono (fun a' w' ⟨h3, h4, h5⟩ => ⟨h4, ih (listed.setIfInBounds j true) a' w' (zi4 hdn hj) ?_ (ready_mono hr (Ne.symm hji)) ?_ ?_⟩) h2
   ·intro k ok hk hki hun hno
    refine hfree k ok hk hki ?_ hno
    by_cases hjk : j = k
    ·subst hjk; exact hjun
    ·rw [Go.getD_set_ne true hjk] at hun; exact hun
   ·unfold YieldsIf at h3 ⊢
    exact h3.imp (fun ⟨g1, g2⟩ => ⟨g1, fun w2 hw2 => g2 w2 (hany _ _ _ (h4.1 oj hoj) h4.2 hw2)⟩) id
   ·rw [Array.setIfInBounds_comm _ _ hji]
    exact h5
theorem w13 {bf : List (List Nat)} {listed : Array Bool} {i : Nat} (hb : ∀ j i, i ∈ bf.getD j [] -> Bef ops j i) (h : w3y ops bf listed i = true) :
  ∃ oi t x, ops[i]? = some oi /\ oi.op = .load t x /\ oi.guard = none /\ ∀ j oj, ops[j]? = some oj -> j ≠ i -> listed.getD j true = false -> ¬ Bef ops j i -> oi.apart ops oj = true := by
 unfold w3y at h
 split at h
 ·cases h
 ·rename_i oi hoi
  split at h
  ·rename_i t x ho hg
   refine ⟨oi, t, x, hoi, ho, hg, fun j oj hj hji hun hno => ?_⟩
   rw [List.all_eq_true] at h
   have h1 := h j (List.mem_range.2 (Array.getElem?_eq_some_iff.1 hj).1)
   have hnb : (bf.getD j []).contains i = false := by
    cases hc : (bf.getD j []).contains i with
    | false => rfl
    | true => exact absurd (hb j i (List.contains_iff_mem.1 hc)) hno
   have hji' : (j == i) = false := by simpa using hji
   simp only [hj, hun, hnb, hji', Bool.false_or] at h1
   exact h1
  ·cases h
end
section
variable {P : Program} {E : Env} {Pr : Nat -> Prop} {w0 : St} {w : World} {stk : List (Array Value)} {s : MS} {a : Act} {G : Gh} {o : Oper}
theorem w4x (hE : EOk P E) (k : Rel Pr w0 stk s a.tmps w G) (h : wh9 E s o = true) : ∃ z, ∀ w2 : World, (∀ b, G.I b -> w2.heap[b]? = w.heap[b]?) -> (execOp a.eval o).run P w2 = .ok (.value z) w2 := by
 unfold wh9 at h
 split at h
 ·rename_i t x ho hg
  split at h
  ·rename_i v y ex
   have ht : E.ty? t = some v := by simpa using h
   have kx := k.ev x
   rw [ex] at kx
   obtain ⟨_, ⟨b, off, sp⟩, C, T, fz, h1, h2, h3, h4, h5, h6⟩ := kx
   simp only at h2; subst h2
   have e1 : a.eval x = .pointer (some ⟨b, off, none⟩) := by simpa using h1
   have h4' : ∀ c ∈ (C.toList.drop off).take v.sz, cell1 c = true := h6.cell1
   obtain ⟨z, g1, g2, g3⟩ := zb0 (w := w) hE ht h4 h5 h4'
   refine ⟨z, fun w2 hw => ?_⟩
   obtain ⟨z2, q1, q2, q3⟩ := zb0 (w := w2) hE ht ((hw b h3).trans h4) h5 h4'
   have : z2 = z := by
    rw [<- g2] at q2
    cases hg : v.agg <;> simp only [hg, if_true, if_false, Bool.false_eq_true] at g3 q3
    ·rw [z34 g3, z34 q3] at q2
     simpa using q2
    ·obtain ⟨cs, rfl⟩ := g3
     obtain ⟨cs2, rfl⟩ := q3
     simp only [Value.cells] at q2
     rw [Array.toList_inj.1 q2]
   subst this
   exact y11 ho e1 q1
  ·cases h
 ·cases h
end
end Vm
/- Floats that have run, and their landing. -/
namespace Vm
open Go
abbrev Fs := List (Nat × Nat × Value)
def Fs.sl (φ : Fs) : List (Nat × Value) := φ.map fun p => (p.2.1, p.2.2)
def Fs.ix (φ : Fs) : List Nat := φ.map fun p => p.1
theorem w1w {α : Type} {d : Nat} : ∀ {l : List (Nat × α)}, (∀ p, p ∈ l -> p.1 ≠ d) -> look d l = none
 | [], _ => rfl
 | (m, a) :: l, h => by
  rw [z16 _ _ (fun e => h (m, a) (List.mem_cons_self ..) e.symm)]
  exact w1w fun p hp => h p (List.mem_cons_of_mem _ hp)
theorem w1x {α : Type} {d t : Nat} (ht : t ≠ d) {u : α} : ∀ (l l' : List (Nat × α)), look t (l ++ l') = look t (l ++ (d, u) :: l')
 | [], l' => by rw [List.nil_append, List.nil_append, z16 _ _ ht]
 | (m, a) :: l, l' => by
  simp only [List.cons_append, look]
  split
  ·rfl
  ·exact w1x ht l l'
theorem y98 {φ : Fs} {d : Nat} (h : ∀ p, p ∈ φ -> p.2.1 ≠ d) : look d φ.sl = none :=
 w1w fun p hp => by
  obtain ⟨q, hq, rfl⟩ := List.mem_map.1 hp
  exact h q hq
structure Ran (P : Program) (ops : Array Oper) (Pr : Nat -> Prop) (w0 : St) (a : Act) (j d b : Nat) : Prop where
 ran : ∃ o hd C e, ops[j]? = some o /\ z9e o = true /\ o.dst = some d /\ yq6 P o a hd C e /\ a.tmps.getD d undef = hd b /\ d < a.tmps.size /\
  Pr b /\ (if ze2 o then ¬ w0.I0 b else w0.I0 b) /\ w0.heap[b]? = some (.cells C e)
theorem y2u {o : Oper} (h : z9e o = true) (cs : _) (b : _) : o.op ≠ .select cs b := by
 unfold z9e at h
 split at h <;> first | (cases h; done) | (rename_i ho _ _; rw [ho]; intro e; cases e)
theorem w4f {o : Oper} (h : z9e o = true) : o.guard = none := by
 unfold z9e at h
 split at h <;> first | (cases h; done) | (rename_i hg _; exact hg)
theorem wd1 {o : Oper} (h : z9e o = true) : ∃ d, o.dst = some d := by
 unfold z9e at h
 split at h <;> first | (cases h; done) | (rename_i hd; exact ⟨_, hd⟩)
section
variable {P : Program} {E : Env} {Pr : Nat -> Prop} {w0 : St} {w : World} {stk : List (Array Value)} {s : MS} {a : Act} {G : Gh}
theorem Rel.less {P2 : Nat -> Prop} {tm : Array Value} (k : Rel Pr w0 stk s tm w G) (h : ∀ x, P2 x -> Pr x) : Rel P2 w0 stk s tm w G :=
 k.base ⟨h, Keep.refl _ _, fun _ _ h => h, rfl⟩
theorem Rel.landO (k : Rel Pr w0 stk s a.tmps w G) {b : Nat} (hb : Pr b) (hb0 : ¬ w0.I0 b) {C : Array Value} {e : TypeId} (hw : w.heap[b]? = some (.cells C e)) {ptr : Bool} {ob : Obj} {hd : Nat -> Value}
  (hok : ∀ (w' : World) (G' : Gh) (nm b : Nat), w'.heap[b]? = some (.cells C e) -> Ob w' (G'.at nm (hd b) [b]) nm ob /\ ARd w' G'.I (G'.at nm (hd b) [b]).h (.one (if ptr then .pbox nm 0 else .own nm)) (hd b)) {d : Nat} (hdl : d < a.tmps.size) :
  ∃ G', Rel (fun x => Pr x /\ x ≠ b) w0 stk ((s.new (s.nm (some d)) ob).put (some d) (.one (if ptr then .pbox (s.nm (some d)) 0 else .own (s.nm (some d))))) (a.put (some d) (hd b)).tmps w G' := by
 have hlt : b < w.heap.size := (Array.getElem?_eq_some_iff.1 hw).1
 have k1 : Rel (fun x => Pr x /\ x ≠ b) w0 stk s a.tmps w G := k.less fun x h => h.1
 have hI : ¬ G.I b := fun hi => hb0 (k.old b hb hi)
 have ka := (k1.kill (s.nm (some d))).add (id := s.nm (some d)) (z47 s _) (o := ob) (v := hd b) (bs := [b]) (hok w G _ b hw).1
  (fun x hx => by rw [List.mem_singleton] at hx; subst hx; exact ⟨fun h => h.2 rfl, hI, hlt⟩)
  (fun x hx id' o' _ ho' hm => by
    rw [List.mem_singleton] at hx; subst hx
    exact (k.sep id' o' _ (z0w ho').2.1 hm).1 hb)
 exact ⟨_, ka.putO (a := a) (d := some d) (fun t ht => by cases ht; exact hdl) (hok w G _ b hw).2⟩
end
section
variable {ρ : Type} {P : Program} {E : Env} {ops : Array Oper} {Pr : Nat -> Prop} {w0 : St} {w : World} {stk : List (Array Value)}
def Aloof (ops : Array Oper) (l : List Nat) : Prop := ∀ j, j ∈ l -> ∀ o d, ops[j]? = some o -> o.dst = some d -> d ∉ o.looksAt ops /\ ∀ j', j' ∈ l -> j ≠ j' -> ∀ o' d', ops[j']? = some o' -> o'.dst = some d' -> d ≠ d' /\ d ∉ o'.looksAt ops /\ d' ∉ o.looksAt ops
theorem wo7 (hE : EOk P E) {a : Act} {φ : Fs} {β : Nat -> Nat} {s : MS} {G : Gh} (k : Rel Pr w0 stk s (back φ.sl a).tmps w G) (hn : φ.ix.Nodup) (hal : Aloof ops φ.ix) (hf : ∀ p, p ∈ φ -> Ran P ops Pr w0 a p.1 p.2.1 (β p.1))
  {j : Nat} (hj : j ∈ φ.ix) {o : Oper} (ho : ops[j]? = some o) {all : List Oper} {X : List It} {K : MS -> Option ρ} {r : ρ} (h : zc0 E all (.land o :: X) s K = some r) :
  ∃ (φ' : Fs) (s' : MS) (G' : Gh) (P2 : Nat -> Prop), (∀ x, P2 x -> Pr x) /\ (∀ x, Pr x -> x ≠ β j -> P2 x) /\ Rel P2 w0 stk s' (back φ'.sl a).tmps w G' /\ zc0 E all X s' K = some r /\ φ'.length + 1 = φ.length /\ φ'.Sublist φ /\ (∀ p, p ∈ φ -> p.1 ≠ j -> p ∈ φ') /\ (∀ p, p ∈ φ' -> p.1 ≠ j) := by
 obtain ⟨p, hp, rfl⟩ := List.mem_map.1 hj
 obtain ⟨l1, l2, rfl⟩ := List.append_of_mem hp
 obtain ⟨o', hd, C, e, h1, h2, h3, h4, h5, h6, h7, h8, h9⟩ := (hf p hp).ran
 generalize hbe : β p.1 = b at h5 h7 h8 h9
 rw [ho] at h1; cases h1
 have hne : ∀ q, q ∈ l1 ++ l2 -> q.1 ≠ p.1 := by
  intro q hq e
  unfold Fs.ix at hn
  rw [List.map_append, List.map_cons] at hn
  have hn' := (List.Perm.nodup_iff List.perm_middle).1 hn
  have := (List.nodup_cons.1 hn').1
  rw [<- List.map_append] at this
  exact this (List.mem_map.2 ⟨q, hq, e⟩)
 have hsub : ∀ q, q ∈ l1 ++ l2 -> q ∈ l1 ++ p :: l2 := fun q hq => by
  rcases List.mem_append.1 hq with hq | hq
  ·exact List.mem_append_left _ hq
  ·exact List.mem_append_right _ (List.mem_cons_of_mem _ hq)
 have hda : ∀ q, q ∈ l1 ++ l2 -> q.2.1 ≠ p.2.1 := by
  intro q hq
  obtain ⟨o2, _, _, _, g1, _, g3, _⟩ := (hf q (hsub q hq)).ran
  have := (hal p.1 (List.mem_map.2 ⟨p, hp, rfl⟩) o _ ho h3).2 q.1 (List.mem_map.2 ⟨q, hsub q hq, rfl⟩) (fun e => hne q hq e.symm) o2 _ g1 g3
  exact fun e => this.1 e.symm
 have hlk : ∀ t, t ∈ o.looksAt ops -> look t (Fs.sl (l1 ++ p :: l2)) = none := by
  intro t ht
  refine y98 fun q hq e => ?_
  subst e
  by_cases hqp : q.1 = p.1
  ·obtain ⟨o2, _, _, _, q1, _, q3, _⟩ := (hf q hq).ran
   rw [hqp, ho] at q1; cases q1
   exact (hal p.1 (List.mem_map.2 ⟨p, hp, rfl⟩) o _ ho q3).1 ht
  ·obtain ⟨o2, _, _, _, q1, _, q3, _⟩ := (hf q hq).ran
   exact ((hal p.1 (List.mem_map.2 ⟨p, hp, rfl⟩) o _ ho h3).2 q.1 (List.mem_map.2 ⟨q, hq, rfl⟩) (fun e => hqp e.symm) o2 _ q1 q3).2.2 ht
 have hw : w.heap[b]? = some (.cells C e) := (k.keep.block b h7).trans h9
 -- what the float is known to make is what it made
 have same : ∀ {hd' : Nat -> Value} {C' : Array Value} {e' : TypeId}, yq6 P o (back (Fs.sl (l1 ++ p :: l2)) a) hd' C' e' -> hd b = hd' b /\ (Go.Obj.cells C e) = .cells C' e' := by
  intro hd' C' e' g1
  have hrun : yq6 P o a hd' C' e' := fun wb => by rw [<- y10 (ops := ops) o (y2u h2) _ a hlk]; exact g1 wb
  have hdet := (h4 w).symm.trans (hrun w)
  simp only [Result.ok.injEq, Next.value.injEq] at hdet
  have hb1 := (h4 { w with heap := Array.replicate b (.cells #[] 0) }).symm.trans (hrun { w with heap := Array.replicate b (.cells #[] 0) })
  simp only [Result.ok.injEq, Next.value.injEq, Array.size_replicate] at hb1
  refine ⟨hb1.1, ?_⟩
  have q1 := zt5 (w := w) (o := Go.Obj.cells C e)
  have q2 := zt5 (w := w) (o := Go.Obj.cells C' e')
  rw [hdet.2] at q1
  rw [q1] at q2
  exact Option.some.inj q2
 have hbk : ∀ v, a.tmps.getD p.2.1 undef = v -> back (Fs.sl (l1 ++ l2)) a = (back (Fs.sl (l1 ++ p :: l2)) a).put (some p.2.1) v := fun v hv => by
  rw [<- hv]
  refine w9r _ _ a (y98 hda) fun t ht => ?_
  unfold Fs.sl
  rw [List.map_append, List.map_append, List.map_cons]
  exact w1x ht _ _
 have tail : ∀ p', p' ∈ l1 ++ p :: l2 -> p'.1 ≠ p.1 -> p' ∈ l1 ++ l2 := fun q hq hqj => by
  rcases List.mem_append.1 hq with hq | hq
  ·exact List.mem_append_left _ hq
  ·rcases List.mem_cons.1 hq with rfl | hq
   ·exact absurd rfl hqj
   ·exact List.mem_append_right _ hq
 have hsb : (l1 ++ l2).Sublist (l1 ++ p :: l2) := List.Sublist.append (List.Sublist.refl _) (List.sublist_cons_self ..)
 simp only [zc0] at h
 split at h
 ·rename_i u xs hfl
  obtain ⟨hd', C', e', g1, hm, rfl, g2, g3⟩ := yi7 hE k hfl rfl
  obtain ⟨e1, e2⟩ := same g1
  cases e2
  rw [hm] at h8
  obtain ⟨G', k'⟩ := k.land h7 h8 hw g2 g3 (d := p.2.1) (by rw [yg5]; exact h6)
  refine ⟨l1 ++ l2, _, G', Pr, fun _ h => h, fun _ h _ => h, ?_, h, by simp; omega, hsb, tail, hne⟩
  rw [hbk _ (h5.trans e1), h3]; exact k'
 ·rename_i c ptr ob hfl
  split at h
  ·rename_i hc
   obtain ⟨hd', C', e', g1, hm, hno, hok⟩ := yi7 hE k hfl hc
   obtain ⟨e1, e2⟩ := same g1
   cases e2
   rw [hm] at h8
   obtain ⟨G', k'⟩ := k.landO h7 h8 hw (ptr := ptr) (ob := ob) hok (d := p.2.1) (by rw [yg5]; exact h6)
   refine ⟨l1 ++ l2, _, G', fun x => Pr x /\ x ≠ b, fun _ h => h.1, fun x h hx => ⟨h, hx⟩, ?_, h, by simp; omega, hsb, tail, hne⟩
   rw [hbk _ (h5.trans e1), h3]; exact k'
  ·cases h
 ·cases h
end
end Vm
/- Plans with floats are sound. -/
namespace Vm
open Go
section
variable {ρ : Type} {P : Program} {E : Env} {ops : Array Oper} {Pr : Nat -> Prop} {w0 : St} {w : World} {stk : List (Array Value)}
theorem zo8 {c i : Nat} {l : List (Nat × Nat)} {o : Oper} (ho : ops[i]? = some o) : yo8 ops ((c, i) :: l) = (match c with | 0 => .op o | 1 => .prot o | 2 => .chk o | _ => .land o) :: yo8 ops l := by
 unfold yo8
 rw [List.filterMap_cons]
 simp only [v3i, ho, Option.map_some]
 rfl
theorem Aloof.sub {l l' : List Nat} (h : Aloof ops l) (hs : ∀ j, j ∈ l' -> j ∈ l) : Aloof ops l' := fun j hj o d ho hd =>
 let ⟨h1, h2⟩ := h j (hs j hj) o d ho hd
 ⟨h1, fun j' hj' => h2 j' (hs j' hj')⟩
theorem wa0 {all : List Oper} {K : MS -> Option ρ} {r : ρ} {s : MS} {rest : List (Nat × Nat)} : ∀ (l : List Nat), (∀ j, j ∈ l -> ∃ o, ops[j]? = some o) -> zc0 E all (yo8 ops (l.map (fun j => (2, j)) ++ rest)) s K = some r ->
  (∀ j, j ∈ l -> ∃ o p, ops[j]? = some o /\ yi6 E s o = some p /\ p.ok = true) /\ zc0 E all (yo8 ops rest) s K = some r
 | [], _, h => ⟨fun _ h => (by cases h), h⟩
 | j :: l, hl, h => by
  obtain ⟨o, ho⟩ := hl j (List.mem_cons_self ..)
  rw [List.map_cons, List.cons_append, zo8 ho] at h
  simp only [zc0] at h
  split at h
  ·rename_i p hp
   split at h
   ·rename_i hok
    obtain ⟨h1, h2⟩ := wa0 l (fun j hj => hl j (List.mem_cons_of_mem _ hj)) h
    refine ⟨fun j' hj' => ?_, h2⟩
    rcases List.mem_cons.1 hj' with rfl | hj'
    ·exact ⟨o, p, ho, hp, hok⟩
    ·exact h1 j' hj'
   ·cases h
  ·cases h
theorem w6h (hE : EOk P E) {a : Act} {all : List Oper} {K : MS -> Option ρ} {r : ρ} {rest : List (Nat × Nat)} {β : Nat -> Nat} : ∀ (J : List Nat) {φ : Fs} {s : MS} {G : Gh} {Pr : Nat -> Prop}, Rel Pr w0 stk s (back φ.sl a).tmps w G -> φ.ix.Nodup -> Aloof ops φ.ix ->
  (∀ p, p ∈ φ -> Ran P ops Pr w0 a p.1 p.2.1 (β p.1)) -> (∀ p q, p ∈ φ -> q ∈ φ -> p.1 ≠ q.1 -> β p.1 ≠ β q.1) -> J.Nodup -> (∀ j, j ∈ J -> j ∈ φ.ix) -> zc0 E all (yo8 ops (J.map (fun j => (3, j)) ++ rest)) s K = some r ->
  ∃ (φ' : Fs) (s' : MS) (G' : Gh) (P2 : Nat -> Prop), (∀ x, P2 x -> Pr x) /\ (∀ x, Pr x -> (∀ j, j ∈ J -> x ≠ β j) -> P2 x) /\ Rel P2 w0 stk s' (back φ'.sl a).tmps w G' /\ zc0 E all (yo8 ops rest) s' K = some r /\ φ'.length + J.length = φ.length /\ φ'.Sublist φ /\
   (∀ p, p ∈ φ -> p.1 ∉ J -> p ∈ φ') /\ (∀ p, p ∈ φ' -> p.1 ∉ J) /\ ∀ p, p ∈ φ' -> Ran P ops P2 w0 a p.1 p.2.1 (β p.1)
 | [], φ, s, G, Pr, k, _, _, hf, _, _, _, h => ⟨φ, s, G, Pr, fun _ h => h, fun _ h _ => h, k, h, by simp, List.Sublist.refl _, fun _ hp _ => hp, fun _ _ h => (by cases h), hf⟩
 | j :: J, φ, s, G, Pr, k, hn, hal, hf, hi, hJ, hj, h => by
  obtain ⟨p, hp, hpj⟩ := List.mem_map.1 (hj j (List.mem_cons_self ..))
  obtain ⟨o, _, _, _, ho, _⟩ := (hf p hp).ran
  rw [hpj] at ho
  rw [List.map_cons, List.cons_append, zo8 ho] at h
  obtain ⟨φ1, s1, G1, P1, z1, z2, k1, h1, l1, q1, m1, n1⟩ := wo7 hE k hn hal hf (hj j (List.mem_cons_self ..)) ho h
  have hJ' := List.nodup_cons.1 hJ
  have hs : ∀ i, i ∈ Fs.ix φ1 -> i ∈ Fs.ix φ := fun i hi => by
   obtain ⟨p, hp, rfl⟩ := List.mem_map.1 hi
   exact List.mem_map.2 ⟨p, q1.mem hp, rfl⟩
  have hf1 : ∀ p, p ∈ φ1 -> Ran P ops P1 w0 a p.1 p.2.1 (β p.1) := fun q hq => by
   obtain ⟨o2, hd, C, e, g1, g2, g3, g4, g5, g6, g7, g8, g9⟩ := (hf q (q1.mem hq)).ran
   refine ⟨o2, hd, C, e, g1, g2, g3, g4, g5, g6, z2 _ g7 ?_, g8, g9⟩
   have := hi q p (q1.mem hq) hp (by rw [hpj]; exact n1 q hq)
   rw [hpj] at this; exact this
  obtain ⟨φ2, s2, G2, P2, y1, y2, k2, h2, l2, q2, m2, n2, f2⟩ := w6h hE J k1 (hn.sublist (q1.map _)) (hal.sub hs) hf1 (fun a b ha hb => hi a b (q1.mem ha) (q1.mem hb)) hJ'.2 (fun i hi => by
    obtain ⟨p, hp, hpi⟩ := List.mem_map.1 (hj i (List.mem_cons_of_mem _ hi))
    exact List.mem_map.2 ⟨p, m1 p hp (fun e => hJ'.1 (by rw [<- e, hpi]; exact hi)), hpi⟩) h1
  refine ⟨φ2, s2, G2, P2, fun x hx => z1 x (y1 x hx), fun x hx hxj => y2 x (z2 x hx (hxj j (List.mem_cons_self ..))) fun i hi => hxj i (List.mem_cons_of_mem _ hi), k2, h2, by simp; omega, q2.trans q1, fun p hp hpn => ?_, fun p hp hpn => ?_, f2⟩
  ·exact m2 p (m1 p hp fun e => hpn (e ▸ List.mem_cons_self ..)) fun hm => hpn (List.mem_cons_of_mem _ hm)
  ·rcases List.mem_cons.1 hpn with e | hm
   ·exact n1 p (q2.mem hp) e
   ·exact n2 p hp hm
theorem yt9 {bf : List (List Nat)} {n : Nat} {listed : Array Bool} {fl J : List Nat} {i : Nat} (h : wj5 ops bf n listed fl = some (J, i)) :
  Region.ready .any ops (z2r fl listed) = [i] /\ w98 ops z9e i = false /\ fl.length <= n /\ Aloof ops fl /\ (∀ j, j ∈ fl -> j ∉ J -> ∃ x y, ops[j]? = some x /\ ops[i]? = some y /\ x.apart ops y = true) /\
   i ∈ Region.ready .any ops (z2r J listed) /\ J = fl.filter (fun j => (bf.getD i []).contains j) := by
 unfold wj5 at h
 split at h
 ·rename_i i' hr
  split at h
  ·rename_i hc
   simp only [Option.some.injEq, Prod.mk.injEq] at h
   obtain ⟨rfl, rfl⟩ := h
   simp only [Bool.and_eq_true, Bool.not_eq_true', decide_eq_true_eq, List.all_eq_true, Bool.or_eq_true, beq_iff_eq] at hc
   obtain ⟨⟨⟨⟨h1, h2⟩, h3⟩, h4⟩, h5⟩ := hc
   refine ⟨hr, h1, h2, fun j hj o d ho hd => ⟨?_, fun j' hj' hne o' d' ho' hd' => ?_⟩, fun j hj hJ => ?_, List.contains_iff_mem.1 h5, rfl⟩
   ·have := (h3 j hj).1
    unfold wu6 at this
    simp only [ho, hd, Option.all_some, Bool.not_eq_true'] at this
    simpa using this
   ·have := ((h3 j hj).2 j' hj').resolve_left hne
    unfold yv7 at this
    simp only [ho, ho'] at this
    obtain ⟨q1, q2, q3⟩ := Oper.apart_spec this
    exact ⟨fun e => q2 d hd (by rw [hd', e]), q1 d hd, q3 d' hd'⟩
   ·have hnc : ¬ (bf.getD i' []).contains j = true := fun hc => hJ (List.mem_filter.2 ⟨hj, hc⟩)
    have := (h4 j hj).resolve_left hnc
    unfold yv7 at this
    split at this
    ·rename_i x y hx hy; exact ⟨x, y, hx, hy, this⟩
    ·cases this
  ·cases h
 ·cases h
end
end Vm
/- Regions whose order is drawn, with floats: soundness. -/
namespace Vm
open Go
section
variable {ρ : Type} {P : Program} {E : Env} {stk : List (Array Value)}
def St.reI (w0 : St) (w : World) (I : Nat -> Prop) : St := { toWorld := w, I0 := fun x => w0.I0 x \/ I x, h0 := w0.h0 }
theorem Rel.rebaseI {Pr : Nat -> Prop} {w0 : St} {w : World} {s : MS} {tm : Array Value} {G : Gh} (k : Rel Pr w0 stk s tm w G) : Rel (fun x => Pr x \/ G.I x) (w0.reI w G.I) stk s tm w G :=
 ⟨Keep.refl _ _, fun _ _ hi => .inr hi, k.isz, k.ob, fun id o b h hb => ⟨fun hp => hp.elim (k.sep id o b h hb).1 (k.sep id o b h hb).2.1, (k.sep id o b h hb).2⟩, k.dis, k.slots, k.saved, k.pin⟩
theorem Rel.unbaseI {Pr : Nat -> Prop} {w0 : St} {w : World} {s : MS} {tm : Array Value} {G : Gh} (k : Rel Pr w0 stk s tm w G) {stk' : List (Array Value)} {s' : MS} {tm' : Array Value} {w' : World} {G' : Gh}
  (k' : Rel (fun x => Pr x \/ G.I x) (w0.reI w G.I) stk' s' tm' w' G') : Rel Pr w0 stk' s' tm' w' G' :=
 ⟨k.keep.trans k'.keep fun _ h => .inl h, fun b hb hi => (k'.old b (.inl hb) hi).elim id (k.old b hb), k'.isz, k'.ob,
   fun id o b h hb => ⟨fun hp => (k'.sep id o b h hb).1 (.inl hp), (k'.sep id o b h hb).2⟩, k'.dis, k'.slots, k'.saved, k'.pin⟩
theorem yd6 {Pr : Nat -> Prop} {w0 : St} : y0p P Pr w0 (fun _ _ _ _ => none : Inl ρ) := by
 intro f avs s K r stk tm w G vs h
 cases h
theorem wf1 : ∀ (l l' : List Nat), l.Nodup -> (∀ x, x ∈ l -> x ∈ l') -> l.length <= l'.length
 | [], _, _, _ => Nat.zero_le _
 | x :: l, l', hn, hs => by
  have hn := List.nodup_cons.1 hn
  have h1 := wf1 l (l'.erase x) hn.2 fun y hy => (List.mem_erase_of_ne (fun e : y = x => hn.1 (by rw [<- e]; exact hy))).2 (hs y (List.mem_cons_of_mem _ hy))
  have hx := hs x (List.mem_cons_self ..)
  rw [List.length_erase_of_mem hx] at h1
  have := List.length_pos_of_mem hx
  rw [List.length_cons]
  omega
theorem w4w (hE : EOk P E) (hS : z6j P E) {ops : Array Oper} {N : Nat} (hd : y4p N ops.toList = true) {D : Nat -> Prop} (hDs : ∀ o, o ∈ ops.toList -> ∀ t, o.dst = some t -> D t) (hs : Region.noSelect ops = true)
  {bf : List (List Nat)} (hb : ∀ j i, i ∈ bf.getD j [] -> Bef ops j i) {Q : Exit -> Act -> World -> Prop} (hQ : ∀ c a w, ¬ Q (.panic c) a w) {r : ρ} {K : MS -> Option ρ} {P0 : Nat -> Prop} {w00 : St} :
  ∀ (m f : Nat) (ph : Bool) (listed : Array Bool) (n : Nat) (l : List (Nat × Nat)) (φ : Fs) (β : Nat -> Nat) {Pr : Nat -> Prop} {w0 : St} {s : MS} {a : Act} {w : World} {G : Gh}, (∀ b, Pr b -> b < w0.heap.size) -> Base P0 w00 Pr w0 ->
   yl1 E ops bf f ph listed n = some l -> m + φ.length = n -> Down ops listed -> (φ ≠ [] -> ph = true) -> φ.ix.Nodup -> (∀ p, p ∈ φ -> p.1 ∈ Region.ready .any ops listed /\ Ran P ops Pr w0 a p.1 p.2.1 (β p.1)) -> (∀ p q, p ∈ φ -> q ∈ φ -> p.1 ≠ q.1 -> β p.1 ≠ β q.1) ->
   Rel Pr w0 stk s (back φ.sl a).tmps w G -> a.tmps.size = N -> zc0 E ops.toList (yo8 ops l) s K = some r ->
   (∀ s' a' w' G', Rel P0 w00 stk s' a'.tmps w' G' -> Same D a a' -> a'.defers = a.defers -> K s' = some r -> Q .normal a' w') ->
   ∀ Dk : Nat -> Prop, (∀ b, Dk b -> Pr b) -> (∀ p, p ∈ φ -> ¬ P0 (β p.1) /\ ¬ Dk (β p.1)) -> y87 P E ops Q Dk m (z2r φ.ix listed) a w := by
 intro m
 induction m with
 | zero =>
  intro f ph listed n l φ β Pr w0 s a w G hP hB hpl hm hdn hph hnd hran hinj k hN h hfin Dk hDk hout
  cases f with
  | zero => cases hpl
  | succ f =>
  simp only [yl1] at hpl
  split at hpl
  ·rename_i hr
   cases hpl
   have hφ : φ = [] := by
    cases φ with
    | nil => rfl
    | cons p φ => have := (hran p (List.mem_cons_self ..)).1; rw [hr] at this; cases this
   subst hφ
   rw [show Fs.ix [] = [] from rfl, show z2r [] listed = listed from rfl]
   rw [show Fs.sl [] = [] from rfl, y0x] at k
   exact ym6 hr (hfin s a w G (k.base hB) (Same.refl _ _) rfl h) _
  ·exfalso
   cases φ with
   | nil =>
    have h0 : n = 0 := by simpa using hm.symm
    subst h0
    dsimp only at hpl
    split at hpl <;> cases hpl
   | cons p φ =>
    obtain ⟨n, rfl⟩ : ∃ n', n = n' + 1 := ⟨φ.length, by simpa using hm.symm⟩
    have hfl : ∀ j, j ∈ Fs.ix (p :: φ) -> j ∈ (Region.ready .any ops listed).filter (w98 ops z9e) := by
     intro j hj
     obtain ⟨q, hq, rfl⟩ := List.mem_map.1 hj
     obtain ⟨h1, h2⟩ := hran q hq
     obtain ⟨o, _, _, _, g1, g2, _⟩ := h2.ran
     exact List.mem_filter.2 ⟨h1, by unfold w98; rw [g1]; exact g2⟩
    have hle := wf1 _ _ hnd hfl
    have hc : (ph && !((Region.ready .any ops listed).filter (w98 ops z9e)).isEmpty) = true := by
     rw [hph (by simp)]
     cases hL : (Region.ready .any ops listed).filter (w98 ops z9e) with
     | nil => have := hfl p.1 (List.mem_map.2 ⟨p, List.mem_cons_self .., rfl⟩); rw [hL] at this; cases this
     | cons _ _ => rfl
    rw [if_pos hc] at hpl
    dsimp only at hpl
    split at hpl
    ·rename_i hst
     have h1 := (yt9 hst).2.2.1
     have h2 : (Fs.ix (p :: φ)).length = φ.length + 1 := by simp [Fs.ix]
     have h3 : φ.length + 1 = n + 1 := by simpa using hm
     omega
    ·cases hpl
 | succ m ih =>
  intro f ph listed n l φ β Pr w0 s a w G hP hB hpl hm hdn hph hnd hran hinj k hN h hfin Dk hDk hout
  have hdo : ∀ (a : Act) (i : Nat) (o : Oper), a.tmps.size = N -> ops[i]? = some o -> ∀ t, o.dst = some t -> t < a.tmps.size := by
   intro a i o hN ho t ht
   unfold y4p at hd
   rw [List.all_eq_true] at hd
   have := hd o (List.mem_of_getElem? (by rw [Array.getElem?_toList]; exact ho))
   rw [ht] at this
   rw [hN]; simpa using this
  have hDo : ∀ (i : Nat) (o : Oper), ops[i]? = some o -> ∀ t, o.dst = some t -> D t := fun i o ho => hDs o (List.mem_of_getElem? (by rw [Array.getElem?_toList]; exact ho))
  cases f with
  | zero => cases hpl
  | succ f =>
  simp only [yl1] at hpl
  split at hpl
  ·-- nothing is left
   rename_i hr
   cases hpl
   have hφ : φ = [] := by
    cases φ with
    | nil => rfl
    | cons p φ => have := (hran p (List.mem_cons_self ..)).1; rw [hr] at this; cases this
   subst hφ
   rw [show Fs.ix [] = [] from rfl, show z2r [] listed = listed from rfl]
   rw [show Fs.sl [] = [] from rfl, y0x] at k
   exact ym6 hr (hfin s a w G (k.base hB) (Same.refl _ _) rfl h) _
  ·rename_i hne
   have hne : Region.ready .any ops listed ≠ [] := hne
   obtain ⟨n, rfl⟩ : ∃ n', n = n' + 1 := ⟨m + φ.length, by omega⟩
   have hn : n = m + φ.length := by omega
   generalize hfl0 : (Region.ready .any ops listed).filter (w98 ops z9e) = fl at hpl
   have hflr : ∀ j, j ∈ fl -> j ∈ Region.ready .any ops listed /\ ∃ o, ops[j]? = some o /\ z9e o = true := by
    intro j hj
    rw [<- hfl0, List.mem_filter] at hj
    refine ⟨hj.1, ?_⟩
    have := hj.2
    unfold w98 at this
    split at this
    ·rename_i o ho; exact ⟨o, ho, this⟩
    ·cases this
   have hφfl : ∀ j, j ∈ φ.ix -> j ∈ fl := by
    intro j hj
    obtain ⟨p, hp, rfl⟩ := List.mem_map.1 hj
    obtain ⟨h1, h2⟩ := hran p hp
    obtain ⟨o, _, _, _, g1, g2, _⟩ := h2.ran
    rw [<- hfl0]
    exact List.mem_filter.2 ⟨h1, by unfold w98; rw [g1]; exact g2⟩
   have hkeep : ∀ {P2 : Nat -> Prop} {w' : World} {s' : MS} {tm' : Array Value} {G' : Gh}, (∀ b, Dk b -> P2 b) -> Rel P2 w0 stk s' tm' w' G' -> ∀ b, Dk b -> w'.heap[b]? = w.heap[b]? := fun hD2 k' b hb => (k'.keep.block b (hD2 b hb)).trans (k.keep.block b (hDk b hb)).symm
   have fsCase : ∀ {l : List (Nat × Nat)}, (match wj5 ops bf n listed fl with
       | some (J, i) => if J.length <= n then (yl1 E ops bf f (!(fl.all fun j => J.contains j)) ((z2r J listed).setIfInBounds i true) (n - J.length)).map fun r => fl.map (fun j => (2, j)) ++ J.map (fun j => (3, j)) ++ (0, i) :: r else none
       | none => none) = some l -> zc0 E ops.toList (yo8 ops l) s K = some r -> y87 P E ops Q Dk (m + 1) (z2r φ.ix listed) a w := by
    intro l hpl h
    have h00 := h
    have hplT : fl ≠ [] -> yl1 E ops bf (f + 1) true listed (n + 1) = some l := by
     intro hfne
     have hT : (true && !fl.isEmpty) = true := by cases fl with | nil => exact absurd rfl hfne | cons _ _ => rfl
     simp only [yl1, hfl0]
     rw [if_pos hT]
     cases hR : Region.ready .any ops listed with
     | nil => exact absurd hR hne
     | cons _ _ => exact hpl
    split at hpl
    ·rename_i J i hst
     split at hpl
     ·rename_i hJn
      obtain ⟨rest, hpl2, rfl⟩ := Option.map_eq_some_iff.1 hpl
      obtain ⟨hri, hif, hfln, hal, hap, hiJ, hJ⟩ := yt9 hst
      rw [List.append_assoc] at h
      obtain ⟨hchk, h⟩ := wa0 fl (fun j hj => let ⟨_, o, ho, _⟩ := hflr j hj; ⟨o, ho⟩) h
      have halφ : Aloof ops φ.ix := hal.sub hφfl
      have hun : ∀ j, j ∈ Region.ready .any ops (z2r φ.ix listed) -> j ∉ φ.ix := by
       intro j hj hm
       have h1 := (mem_ready.1 hj).1
       simp only [Array.getD_eq_getD_getElem?, zp1, if_pos hm] at h1
       cases hc : listed[j]? with
       | none => rw [hc] at h1; cases h1
       | some x => rw [hc] at h1; cases h1
      have hrdy : ∀ j, j ∈ fl -> j ∉ φ.ix -> j ∈ Region.ready .any ops (z2r φ.ix listed) := fun j hj hn => y3i _ _ (hflr j hj).1 hn
      refine ⟨fun h0 => ?_, fun kk hkk => ?_⟩
      ·exfalso
       have hall : ∀ j, j ∈ fl -> j ∈ φ.ix := fun j hj => Classical.byContradiction fun hn => (by have := hrdy j hj hn; rw [h0] at this; cases this)
       have := y95 listed (l := φ.ix) (l' := fl) fun k => ⟨hφfl k, hall k⟩
       rw [this, hri] at h0
       cases h0
      ·by_cases hk : kk ∈ fl
       ·-- a float that runs now
        obtain ⟨o, fl', ho, hflat, hflok⟩ := hchk kk hk
        obtain ⟨hkr, o', ho', hof⟩ := hflr kk hk
        rw [ho] at ho'; cases ho'
        obtain ⟨hdv, C, e, g1, _⟩ := yi7 hE k hflat hflok
        obtain ⟨d, hod⟩ := wd1 hof
        have hkφ := hun kk hkk
        have hsd : ∀ p, p ∈ φ -> ∀ o2 d2, ops[p.1]? = some o2 -> o2.dst = some d2 -> d ≠ d2 /\ d ∉ o2.looksAt ops /\ d2 ∉ o.looksAt ops := fun p hp o2 d2 q1 q2 =>
         (hal kk hk o d ho hod).2 p.1 (hφfl _ (List.mem_map.2 ⟨p, hp, rfl⟩)) (fun e => hkφ (e ▸ List.mem_map.2 ⟨p, hp, rfl⟩)) o2 d2 q1 q2
        have hlk : ∀ t, t ∈ o.looksAt ops -> look t φ.sl = none := fun t ht => y98 fun p hp e => by
         obtain ⟨o2, _, _, _, q1, _, q3, _⟩ := (hran p hp).2.ran
         exact (hsd p hp o2 _ q1 q3).2.2 (e ▸ ht)
        have hrun : yq6 P o a hdv C e := fun wb => by rw [<- y10 (ops := ops) o (y2u hof) _ a hlk]; exact g1 wb
        have hld : look d φ.sl = none := y98 fun p hp e => by
         obtain ⟨o2, _, _, _, q1, _, q3, _⟩ := (hran p hp).2.ran
         exact (hsd p hp o2 _ q1 q3).1 e.symm
        have hdl : d < a.tmps.size := hdo a kk o hN ho d hod
        unfold wpOp
        have hwt : Region.wanted o (yielded ops a.tmps) = true := by simp [Region.wanted, w4f hof]
        simp only [ho, hwt, if_true]
        refine .inl ?_
        unfold Oper.wp
        rw [hrun w]
        simp only [Oper.upon]
        rw [hod]
        have hput : ∀ x, (a.put (some d) x).tmps.size = a.tmps.size := fun x => by simp [Act.put]
        have hback := w9q φ.sl a (hdv w.heap.size) hld
        have k2 := k.rebase (ze2 o) hP C e
        refine ⟨⟨fun _ _ _ => zt6 _ _, fun b hb => y3e (Nat.lt_of_lt_of_le (hP b (hDk b hb)) k.keep.size)⟩, ?_⟩
        have hset : (z2r φ.ix listed).setIfInBounds kk true = z2r (Fs.ix ((kk, d, a.tmps.getD d undef) :: φ)) listed := by
         rw [y68]
         exact y95 listed fun x => by simp [Fs.ix, or_comm]
        rw [hset]
        refine ih (f + 1) true listed (n + 1) _ ((kk, d, a.tmps.getD d undef) :: φ) (fun j => if j = kk then w.heap.size else β j) (Pr := fun x => Pr x \/ x = w.heap.size) (w0 := w0.re (ze2 o) (push w (.cells C e)) w.heap.size) (s := s) (G := G) ?_ (hB.re (ze2 o) hP k C e) (hplT (by rintro rfl; cases hk)) (by simp; omega) hdn (fun _ => rfl) ?_ ?_ ?_ ?_ ((hput _).trans hN) h00 ?_ Dk (fun b hb => .inl (hDk b hb)) ?_
        ·intro b hb
         show b < (push w (.cells C e)).heap.size
         rw [z89]
         rcases hb with hb | rfl
         ·have := hP b hb; have := k.keep.size; omega
         ·omega
        ·exact List.nodup_cons.2 ⟨hkφ, hnd⟩
        ·intro p hp
         rcases List.mem_cons.1 hp with rfl | hp
         ·refine ⟨hkr, ?_⟩
          show Ran P ops _ _ _ kk d (if kk = kk then w.heap.size else β kk)
          rw [if_pos rfl]
          refine ⟨o, hdv, C, e, ho, hof, hod, fun wb => ?_, ?_, by rw [hput]; exact hdl, .inr rfl, ?_, zt5⟩
          ·rw [execOp_put (ops := ops) o (y2u hof) a (some d) _ (fun t ht => by cases ht; exact (hal kk hk o d ho hod).1)]
           exact hrun wb
          ·exact y5v _ _ _ hdl
          ·cases hmk : ze2 o with
           | true => rw [if_pos rfl]; exact fun hc => hc.2 rfl
           | false => rw [if_neg (by decide)]; exact .inr rfl
         ·obtain ⟨q0, ⟨o2, hd2, C2, e2, q1, q2, q3, q4, q5, q6, q7, q8, q9⟩⟩ := hran p hp
          obtain ⟨z1, z2, z3⟩ := hsd p hp o2 _ q1 q3
          have hpk : p.1 ≠ kk := fun e => hkφ (e ▸ List.mem_map.2 ⟨p, hp, rfl⟩)
          have hlt : β p.1 < w.heap.size := Nat.lt_of_lt_of_le (hP _ q7) k.keep.size
          refine ⟨q0, ?_⟩
          show Ran P ops _ _ _ p.1 p.2.1 (if p.1 = kk then w.heap.size else β p.1)
          rw [if_neg hpk]
          refine ⟨o2, hd2, C2, e2, q1, q2, q3, fun wb => ?_, ?_, by rw [hput]; exact q6, .inl q7, ?_, ?_⟩
          ·rw [execOp_put (ops := ops) o2 (y2u q2) a (some d) _ (fun t ht => by cases ht; exact z2)]
           exact q4 wb
          ·rw [<- q5]; exact getD_set_ne _ _ _ _ fun e => z1 e.symm
          ·have hI : (w0.re (ze2 o) (push w (.cells C e)) w.heap.size).I0 (β p.1) ↔ w0.I0 (β p.1) := by
            show (if ze2 o then w0.I0 (β p.1) /\ β p.1 ≠ w.heap.size else w0.I0 (β p.1) \/ β p.1 = w.heap.size) ↔ _
            cases ze2 o with
            | true => exact ⟨fun h => h.1, fun h => ⟨h, Nat.ne_of_lt hlt⟩⟩
            | false => exact ⟨fun h => h.elim id fun e => absurd e (Nat.ne_of_lt hlt), .inl⟩
           cases hmk : ze2 o2 with
           | true => rw [hmk] at q8; rw [if_pos rfl] at q8 ⊢; exact fun h => q8 (hI.1 h)
           | false => rw [hmk] at q8; rw [if_neg (by decide)] at q8 ⊢; exact hI.2 q8
          ·show (push w (.cells C e)).heap[β p.1]? = _
           rw [y3e hlt, k.keep.block _ q7]
           exact q9
        ·have hlt : ∀ p, p ∈ φ -> β p.1 < w.heap.size := fun p hp => by
          obtain ⟨_, _, _, _, _, _, _, _, _, _, q7, _⟩ := (hran p hp).2.ran
          exact Nat.lt_of_lt_of_le (hP _ q7) k.keep.size
         have hpk : ∀ p, p ∈ φ -> p.1 ≠ kk := fun p hp e => hkφ (e ▸ List.mem_map.2 ⟨p, hp, rfl⟩)
         intro p q hp hq hne
         show (if p.1 = kk then w.heap.size else β p.1) ≠ (if q.1 = kk then w.heap.size else β q.1)
         rcases List.mem_cons.1 hp with rfl | hp <;> rcases List.mem_cons.1 hq with rfl | hq
         ·exact absurd rfl hne
         ·rw [if_pos rfl, if_neg (hpk q hq)]; exact fun e => Nat.lt_irrefl _ (e ▸ hlt q hq)
         ·rw [if_neg (hpk p hp), if_pos rfl]; exact Nat.ne_of_lt (hlt p hp)
         ·rw [if_neg (hpk p hp), if_neg (hpk q hq)]; exact hinj p q hp hq hne
        ·show Rel _ _ stk s (back ((d, a.tmps.getD d undef) :: φ.sl) _).tmps _ G
         rw [hback]; exact k2
        ·intro s' a' w' G' q1 q2 q3 q4
         exact hfin s' a' w' G' q1 ((zx0 a (fun t ht => by cases ht; exact hDo kk o ho d hod) _).trans q2) (q3.trans (put_defers ..)) q4
        ·have hbig : ∀ x, Pr x -> x ≠ w.heap.size := fun x hx => Nat.ne_of_lt (Nat.lt_of_lt_of_le (hP x hx) k.keep.size)
         intro p hp
         rcases List.mem_cons.1 hp with rfl | hp
         ·show ¬ P0 (if kk = kk then w.heap.size else β kk) /\ ¬ Dk (if kk = kk then w.heap.size else β kk)
          rw [if_pos rfl]
          exact ⟨fun h => hbig _ (hB.sub _ h) rfl, fun h => hbig _ (hDk _ h) rfl⟩
         ·show ¬ P0 (if p.1 = kk then w.heap.size else β p.1) /\ ¬ Dk (if p.1 = kk then w.heap.size else β p.1)
          have hpk : p.1 ≠ kk := fun e => hkφ (e ▸ List.mem_map.2 ⟨p, hp, rfl⟩)
          rw [if_neg hpk]
          exact hout p hp
       ·-- the one operation
        have hki : kk = i := by
         rcases wi1 hφfl hkk with h1 | h1
         ·exact absurd h1 hk
         ·rw [hri] at h1; exact List.mem_singleton.1 h1
        subst hki
        have hrn : (Region.ready .any ops listed).Nodup := by
         unfold Region.ready
         exact List.Pairwise.filter _ List.nodup_range
        have hJn' : J.Nodup := by
         rw [hJ, <- hfl0]
         exact (hrn.filter _).filter _
        have hJf : ∀ j, j ∈ J -> j ∈ fl /\ Bef ops kk j := by
         intro j hj
         rw [hJ, List.mem_filter] at hj
         exact ⟨hj.1, hb kk j (List.contains_iff_mem.1 hj.2)⟩
        have hdφ : Down ops (z2r φ.ix listed) := y5p _ _ hdn (fun j hj => (hflr j (hφfl j hj)).1) hnd
        have hJφ : ∀ j, j ∈ J -> j ∈ φ.ix := by
         intro j hj
         refine Classical.byContradiction fun hn => ?_
         have h1 := y7x hdφ hkk (hJf j hj).2
         rw [y0g hn] at h1
         have h2 := (mem_ready.1 (hflr j (hJf j hj).1).1).1
         rcases Nat.lt_or_ge j listed.size with h' | h'
         ·simp [h'] at h1 h2; rw [h1] at h2; cases h2
         ·simp [Array.getElem?_eq_none h'] at h2
        obtain ⟨φ', s', G', P2, hP21, hP22, k', h', hlen, hsub, hm', hn', hran2⟩ := w6h hE J k hnd halφ (fun p hp => (hran p hp).2) hinj hJn' hJφ h
        have hP2 : ∀ b, P2 b -> b < w0.heap.size := fun b hb => hP b (hP21 b hb)
        have hJout : ∀ j, j ∈ J -> ¬ P0 (β j) /\ ¬ Dk (β j) := fun j hj => by
         obtain ⟨p, hp, rfl⟩ := List.mem_map.1 (hJφ j hj)
         exact hout p hp
        have hDk2 : ∀ b, Dk b -> P2 b := fun b hb => hP22 b (hDk b hb) fun j hj e => (hJout j hj).2 (e ▸ hb)
        have hB2 : Base P0 w00 P2 w0 := ⟨fun x hx => hP22 x (hB.sub x hx) fun j hj e => (hJout j hj).1 (e ▸ hx), hB.keep, hB.old, hB.h0⟩
        obtain ⟨_, o, ho, _⟩ := mem_ready.1 hkk
        rw [zo8 ho] at h'
        simp only [zc0] at h'
        have hsel := Region.noSelect_spec hs
        have hap' : ∀ p, p ∈ φ' -> ∃ x, ops[p.1]? = some x /\ x.apart ops o = true := by
         intro p hp
         obtain ⟨x, y, q1, q2, q3⟩ := hap p.1 (hφfl _ (List.mem_map.2 ⟨p, hsub.mem hp, rfl⟩)) (hn' p hp)
         rw [ho] at q2; cases q2
         exact ⟨x, q1, q3⟩
        have hlk : ∀ t, t ∈ o.looksAt ops -> look t φ'.sl = none := fun t ht => y98 fun p hp e => by
         obtain ⟨x, q1, q2⟩ := hap' p hp
         obtain ⟨o2, _, _, _, g1, _, g3, _⟩ := (hran p (hsub.mem hp)).2.ran
         rw [q1] at g1; cases g1
         exact (Oper.apart_spec q2).1 _ g3 (e ▸ ht)
        have hld : ∀ t, o.dst = some t -> look t φ'.sl = none := fun t ht => y98 fun p hp e => by
         obtain ⟨x, q1, q2⟩ := hap' p hp
         obtain ⟨o2, _, _, _, g1, _, g3, _⟩ := (hran p (hsub.mem hp)).2.ran
         rw [q1] at g1; cases g1
         exact (Oper.apart_spec q2).2.1 _ g3 (e ▸ ht)
        have hwp := (zi2 (Q := Q) hE hS hP2 yd6 k' ho (hdo (back φ'.sl a) kk o ((yg5 _ _).trans hN) ho) (hDo kk o ho) h').1
        have hwp2 := wk9 ho (fun cs b => hsel kk o cs b ho) hQ hlk hld (Inv := fun a' => Same D a a' /\ ∀ p, p ∈ φ' -> Ran P ops P2 w0 a' p.1 p.2.1 (β p.1))
         (fun a' v ⟨q1, q2⟩ => ⟨q1.trans (zx0 a' (hDo kk o ho) v), fun p hp => by
           obtain ⟨x, z1, z2⟩ := hap' p hp
           obtain ⟨o2, hd2, C2, e2, g1, g2, g3, g4, g5, g6, g7, g8, g9⟩ := (q2 p hp).ran
           rw [z1] at g1; cases g1
           obtain ⟨y1, y2, y3⟩ := Oper.apart_spec z2
           refine ⟨x, hd2, C2, e2, z1, g2, g3, fun wb => ?_, ?_, ?_, g7, g8, g9⟩
           · rw [execOp_put (ops := ops) x (y2u g2) a' o.dst v y3]; exact g4 wb
           · rw [<- g5]
             cases hod : o.dst with
             | none => rfl
             | some t => exact getD_set_ne _ _ _ _ fun e => y2 _ g3 (by rw [hod, e])
           · cases o.dst with
             | none => exact g6
             | some t => simpa [Act.put] using g6⟩)
         (fun a' d ⟨q1, q2⟩ => ⟨q1, fun p hp => by
           obtain ⟨o2, hd2, C2, e2, g1, g2, g3, g4, g5⟩ := (q2 p hp).ran
           exact ⟨o2, hd2, C2, e2, g1, g2, g3, g4, g5⟩⟩)
         ⟨Same.refl D a, hran2⟩ hwp
        refine wpOp_mono (fun a' w' ⟨⟨hsame, hran'⟩, ⟨s2, G2, k2, hs2, hdf, hK⟩, hg⟩ => ⟨⟨fun o' ho' hc => ?_, hkeep hDk2 k2⟩, ?_⟩) hwp2
        ·rw [ho] at ho'; cases ho'
         exact hg hc
        ·have hset : (z2r φ.ix listed).setIfInBounds kk true = z2r φ'.ix ((z2r J listed).setIfInBounds kk true) := by
          rw [y68, y68, <- y80]
          refine y95 listed fun x => ?_
          simp only [List.mem_append, List.mem_singleton]
          constructor
          ·rintro (hx | hx)
           ·obtain ⟨p, hp, rfl⟩ := List.mem_map.1 hx
            by_cases hpJ : p.1 ∈ J
            ·exact .inl (.inl hpJ)
            ·exact .inr (List.mem_map.2 ⟨p, hm' p hp hpJ, rfl⟩)
           ·exact .inl (.inr hx)
          ·rintro ((hx | hx) | hx)
           ·exact .inl (hJφ x hx)
           ·exact .inr hx
           ·obtain ⟨p, hp, rfl⟩ := List.mem_map.1 hx
            exact .inl (List.mem_map.2 ⟨p, hsub.mem hp, rfl⟩)
         rw [hset]
         refine ih f (!(fl.all fun j => J.contains j)) ((z2r J listed).setIfInBounds kk true) (n - J.length) rest φ' β hP2 hB2 hpl2 (by omega) (zi4 (y5p J listed hdn (fun j hj => (hflr j (hJf j hj).1).1) hJn') hiJ) (fun hne' => by
             obtain ⟨p, hp⟩ := List.exists_mem_of_ne_nil _ hne'
             have h1 := hφfl p.1 (List.mem_map.2 ⟨p, hsub.mem hp, rfl⟩)
             have h2 := hn' p hp
             rw [Bool.not_eq_true', List.all_eq_false]
             exact ⟨p.1, h1, by simpa using h2⟩)
          (hnd.sublist (hsub.map _)) (fun p hp => ⟨?_, hran' p hp⟩) (fun p q hp hq => hinj p q (hsub.mem hp) (hsub.mem hq)) k2 (hsame.1.trans hN) hK (fun s3 a3 w3 G3 q1 q2 q3 q4 => hfin s3 a3 w3 G3 q1 (hsame.trans q2) (q3.trans hdf) q4) Dk hDk2 (fun p hp => hout p (hsub.mem hp))
         refine ready_mono (y3i J listed (hran p (hsub.mem hp)).1 (hn' p hp)) fun e => ?_
         obtain ⟨o2, _, _, _, g1, g2, _⟩ := (hran' p hp).ran
         rw [e] at g1
         unfold w98 at hif
         rw [g1] at hif
         simp only at hif
         rw [g2] at hif
         cases hif
     ·cases hpl
    ·cases hpl
   split at hpl
   ·exact fsCase hpl h
   ·rename_i hph2
    have hφ : φ = [] := by
     cases φ with
     | nil => rfl
     | cons p φ =>
      have h1 := hφfl p.1 (List.mem_map.2 ⟨p, List.mem_cons_self .., rfl⟩)
      have h2 := hph (by simp)
      exfalso
      apply hph2
      rw [h2]
      cases fl with
      | nil => cases h1
      | cons _ _ => rfl
    subst hφ
    rw [show Fs.ix [] = [] from rfl, show z2r [] listed = listed from rfl]
    rw [show Fs.sl [] = [] from rfl, y0x] at k
    dsimp only at hpl
    split at hpl
    ·-- an operation that may be taken first
     rename_i i hf
     obtain ⟨rest, hpl2, rfl⟩ := Option.map_eq_some_iff.1 hpl
     have hi : i ∈ Region.ready .any ops listed := List.mem_of_find?_eq_some hf
     obtain ⟨oi, any, ho, hy, hfree⟩ := y6z hb (List.find?_some hf)
     rw [zo8 ho] at h
     simp only [zc0] at h
     obtain ⟨v, hyv, s', G', k', hs1, hdf, hK⟩ := (zi2 (Q := Q) hE hS hP yd6 k ho (hdo a i oi hN ho) (hDo i oi ho) h).2 any hy
     refine yb1 (S := fun w w2 => any = true \/ Grow w w2) ho (Region.noSelect_spec hs) hQ (fun w => .inr (Grow.refl w)) m listed a w hdn (fun j oj h1 h2 h3 h4 => ?_) hi hyv ?_
     ·obtain ⟨g1, g2⟩ := hfree j oj h1 h2 h3 h4
      refine ⟨g1, fun w w' w2 q1 _ q3 => ?_⟩
      rcases q3 with q3 | q3
      ·exact .inl q3
      ·rcases g2 with g2 | g2
       ·exact .inl g2
       ·exact .inr ((q1 g2).trans q3)
     ·have := ih f false (listed.setIfInBounds i true) n rest [] β hP hB hpl2 (by simpa using hn.symm) (zi4 hdn hi) (fun h => absurd rfl h) List.nodup_nil (fun p hp => by cases hp) (fun p q hp => by cases hp)
       (s := s') (a := a.put oi.dst v) (w := w) (G := G') (by rw [show Fs.sl [] = [] from rfl, y0x]; exact k') (hs1.1.trans hN) hK
       (fun s2 a2 w2 G2 q1 q2 q3 q4 => hfin s2 a2 w2 G2 q1 (hs1.trans q2) (q3.trans hdf) q4) Dk hDk (fun p hp => by cases hp)
      exact this
    ·split at hpl
     ·-- a load of plain data
      rename_i i hf
      obtain ⟨rest, hpl2, rfl⟩ := Option.map_eq_some_iff.1 hpl
      have hi : i ∈ Region.ready .any ops listed := List.mem_of_find?_eq_some hf
      obtain ⟨oi, t, x, ho, hop, hg, hfree⟩ := w13 hb (List.find?_some hf)
      rw [zo8 ho] at h
      simp only [zc0] at h
      split at h
      ·rename_i hpr
       obtain ⟨z, hz⟩ := w4x hE k hpr
       have hyc : yc E oi = some false := by unfold yc; rw [hop]
       have hPI : ∀ b, (Pr b \/ G.I b) -> b < (w0.reI w G.I).heap.size := fun b hb => hb.elim (fun h => Nat.lt_of_lt_of_le (hP b h) k.keep.size) (k.isz b)
       obtain ⟨v, hyv, s', G', k', hs1, hdf, hK⟩ := (zi2 (Q := Q) hE hS hPI yd6 k.rebaseI ho (hdo a i oi hN ho) (hDo i oi ho) h).2 false hyc
       have hwt : Region.wanted oi (yielded ops a.tmps) = true := by simp [Region.wanted, hg]
       have hvz : v = z := by
        rcases hyv with ⟨_, hv⟩ | ⟨hw, _⟩
        ·have := (hv w (.inr (Grow.refl w))).symm.trans (hz w fun _ _ => rfl)
         simpa using this
        ·rw [hwt] at hw; cases hw
       subst hvz
       refine ym7 (D := fun b => Dk b \/ G.I b) (fun b hb => .inl hb) _ _ _ _ ?_
       refine yb1 (S := fun w w2 => ∀ b, G.I b -> w2.heap[b]? = w.heap[b]?) ho (Region.noSelect_spec hs) hQ (fun w b _ => rfl) m listed a w hdn (fun j oj h1 h2 h3 h4 => ⟨hfree j oj h1 h2 h3 h4, fun w w' w2 _ q2 q3 b hb => (q3 b hb).trans (q2 b (.inr hb))⟩) hi
        (.inl ⟨hwt, fun w2 hw2 => hz w2 hw2⟩) ?_
       have := ih f false (listed.setIfInBounds i true) n rest [] β hPI ⟨fun x hx => .inl (hB.sub x hx), hB.keep.trans k.keep fun x hx => hB.sub x hx, fun x hx hi => hB.old x hx (hi.elim id fun hi => k.old x (hB.sub x hx) hi), hB.h0⟩ hpl2 (by simpa using hn.symm) (zi4 hdn hi) (fun h => absurd rfl h) List.nodup_nil (fun p hp => by cases hp) (fun p q hp => by cases hp)
        (s := s') (a := a.put oi.dst v) (w := w) (G := G') (by rw [show Fs.sl [] = [] from rfl, y0x]; exact k') (hs1.1.trans hN) hK
        (fun s2 a2 w2 G2 q1 q2 q3 q4 => hfin s2 a2 w2 G2 q1 (hs1.trans q2) (q3.trans hdf) q4) (fun b => Dk b \/ G.I b) (fun b hb => hb.elim (fun h => .inl (hDk b h)) .inr) (fun p hp => by cases hp)
       exact this
      ·cases h
     ·split at hpl
      ·-- a float, and nothing else that can run
       rename_i i hf
       obtain ⟨rest, hpl2, rfl⟩ := Option.map_eq_some_iff.1 hpl
       have hR : Region.ready .any ops listed = [i] := by
        unfold v22 at hf
        split at hf
        ·rename_i j hR
         split at hf
         ·cases hf; exact hR
         ·cases hf
        ·cases hf
       have hi : i ∈ Region.ready .any ops listed := by rw [hR]; exact List.mem_singleton_self _
       obtain ⟨_, oi, ho, _⟩ := mem_ready.1 hi
       rw [zo8 ho] at h
       simp only [zc0] at h
       have hwp := (zi2 (Q := Q) hE hS hP yd6 k ho (hdo a i oi hN ho) (hDo i oi ho) h).1
       refine ⟨fun h0 => (by rw [hR] at h0; cases h0), fun kk hkk => ?_⟩
       rw [hR] at hkk
       obtain rfl : kk = i := List.mem_singleton.1 hkk
       refine wpOp_mono (fun a' w' ⟨⟨s2, G2, k2, hs2, hdf, hK⟩, hg⟩ => ⟨⟨fun o' ho' hc => ?_, hkeep hDk k2⟩, ?_⟩) hwp
       ·rw [ho] at ho'; cases ho'
        exact hg hc
       ·exact ih f false (listed.setIfInBounds kk true) n rest [] β hP hB hpl2 (by simpa using hn.symm) (zi4 hdn hi) (fun h => absurd rfl h) List.nodup_nil (fun p hp => by cases hp) (fun p q hp => by cases hp)
         (s := s2) (a := a') (w := w') (G := G2) (by rw [show Fs.sl [] = [] from rfl, y0x]; exact k2) (hs2.1.trans hN) hK
         (fun s3 a3 w3 G3 q1 q2 q3 q4 => hfin s3 a3 w3 G3 q1 (hs2.trans q2) (q3.trans hdf) q4) Dk hDk (fun p hp => by cases hp)
      ·exact fsCase hpl h
end
section
variable {P : Program} {E : Env}
theorem wm9 (hE : EOk P E) (hS : z6j P E) (hm : P.follows .mixedOrders = true) : w35 P E := by
 intro L k path n ρ Pr w0 stk inl id ops hP hI s a w G K r hr hn h
 simp only [code] at h
 split at h
 ·rename_i hd
  split at h
  ·rename_i order hpl
   unfold wu1 at hpl
   split at hpl
   ·rename_i hs
    refine wp_region_any hm (yu2 (E := E) _ _ _ _ ?_)
    have hr' : Rel Pr w0 stk s a.tmps { w with drawn := w.drawn + 1 } G := hr.mono ⟨rfl, rfl, rfl, Nat.le_refl _, fun _ _ => rfl⟩ (fun _ _ => rfl) (fun _ h => h) hr.isz (fun id o b ho hb => ⟨rfl, (hr.sep id o b ho hb).2.1⟩) hr.old
    exact y92 (K := fun s => K .normal s) hE hS hP hI hd (D := fun t => t ∈ w32 (.region id ops true)) (fun o ho t ht => List.mem_filterMap.2 ⟨o, ho, ht⟩) hs (y6v ops) (fun c a w ⟨x, e, _⟩ => by cases x <;> cases e) _ _ order hpl (fun k hk => by
      exfalso
      rw [Array.getD_eq_getD_getElem?, Array.getElem?_replicate] at hk
      split at hk <;> cases hk) hr' hn h fun a' w' ht => ⟨.normal, rfl, ht⟩
   ·cases hpl
  ·split at h
   ·rename_i l hpl
    unfold wh8 at hpl
    split at hpl
    ·rename_i hs
     refine wp_region_any hm (yu3 (E := E) (D := fun _ => False) _ _ _ _ ?_)
     have hr' : Rel Pr w0 stk s a.tmps { w with drawn := w.drawn + 1 } G := hr.mono ⟨rfl, rfl, rfl, Nat.le_refl _, fun _ _ => rfl⟩ (fun _ _ => rfl) (fun _ h => h) hr.isz (fun id o b ho hb => ⟨rfl, (hr.sep id o b ho hb).2.1⟩) hr.old
     have := w4w (K := fun s => K .normal s) (N := n) hE hS hd (D := fun t => t ∈ w32 (.region id ops true)) (fun o ho t ht => List.mem_filterMap.2 ⟨o, ho, ht⟩) hs (y6v ops) (fun c a w ⟨x, e, _⟩ => by cases x <;> cases e) ops.size _ false _ _ l [] (fun _ => 0) (P0 := Pr) (w00 := w0)
      (Q := CPost Pr w0 stk (fun t => t ∈ w32 (.region id ops true)) a K r) (s := s) (a := a) (G := G) hP (Base.refl _ _) hpl (by simp) (fun k hk => by
        exfalso
        rw [Array.getD_eq_getD_getElem?, Array.getElem?_replicate] at hk
        split at hk <;> cases hk) (fun h => absurd rfl h) List.nodup_nil (fun p hp => by cases hp) (fun p q hp => by cases hp) (by rw [show Fs.sl [] = [] from rfl, y0x]; exact hr') hn h
      (fun s' a' w' G' q1 q2 q3 q4 => ⟨.normal, rfl, s', G', q1, q2, q3, q4⟩) (fun _ => False) (fun _ h => h.elim) (fun p hp => by cases hp)
     exact this
    ·cases hpl
   ·cases h
 ·cases h
end
end Vm
/- What is known of the program's types is checked by computation. -/
namespace Vm
open Go
def rdZ : Ty -> List Value -> Option (List Value)
 | .bool, .bool false :: r => some r
 | .int k, .int k' n :: r => if k = k' /\ n = 0 then some r else none
 | .str, .string s :: r => if s.size = 0 then some r else none
 | .err, .nilIface :: r => some r
 | .slice _, .slice none n c :: r => if n = 0 /\ c = 0 then some r else none
 | .nsl _, .slice none n c :: r => if n = 0 /\ c = 0 then some r else none
 | .unit, r => some r
 | .pair a b, r => (rdZ a r).bind (rdZ b)
 | .arr n t, r => n.rec (some r) fun _ o => o.bind (rdZ t)
 | .opq, v :: r => if cell1 v then some r else none
 | _, _ => none
theorem w28 (w : World) (I : Nat -> Prop) : ∀ {t : Ty} {cs r : List Value}, rdZ t cs = some r -> ∃ c1, cs = c1 ++ r /\ Rd w I t t.zero c1 := by
 intro t
 induction t with
 | bool =>
  intro cs r h
  unfold rdZ at h
  split at h <;> first | contradiction | (cases h; exact ⟨[.bool false], rfl, rfl⟩)
 | int k =>
  intro cs r h
  unfold rdZ at h
  split at h <;> try contradiction
  rename_i he; cases he
  split at h
  ·rename_i hc; obtain ⟨rfl, rfl⟩ := hc; cases h; exact ⟨[.int _ 0], rfl, rfl⟩
  ·cases h
 | str =>
  intro cs r h
  unfold rdZ at h
  split at h <;> try contradiction
  rename_i s r' he
  split at h
  ·rename_i hs
   cases h
   have : s = ByteArray.empty := by
    obtain ⟨d⟩ := s
    have : d.size = 0 := hs
    rw [Array.size_eq_zero_iff] at this
    subst this; rfl
   subst this
   exact ⟨[.string ByteArray.empty], rfl, rfl⟩
  ·cases h
 | err =>
  intro cs r h
  unfold rdZ at h
  split at h <;> first | contradiction | (cases h; exact ⟨[.nilIface], rfl, .nilIface, rfl, fun _ => rfl, fun h => by cases h⟩)
 | slice t _ =>
  intro cs r h
  unfold rdZ at h
  split at h <;> try contradiction
  split at h
  ·rename_i hc; obtain ⟨rfl, rfl⟩ := hc; cases h; exact ⟨[.slice none 0 0], rfl, none, 0, 0, rfl, rfl, rfl, rfl⟩
  ·cases h
 | nsl t _ =>
  intro cs r h
  unfold rdZ at h
  split at h <;> try contradiction
  split at h
  ·rename_i hc; obtain ⟨rfl, rfl⟩ := hc; cases h; exact ⟨[.slice none 0 0], rfl, none, 0, 0, rfl, ⟨rfl, rfl, rfl⟩, by simp [Ty.zero]⟩
  ·cases h
 | unit =>
  intro cs r h
  simp only [rdZ, Option.some.injEq] at h
  subst h
  exact ⟨[], rfl, rfl⟩
 | pair a b iha ihb =>
  intro cs r h
  simp only [rdZ, Option.bind_eq_some_iff] at h
  obtain ⟨m, h1, h2⟩ := h
  obtain ⟨c1, rfl, g1⟩ := iha h1
  obtain ⟨c2, rfl, g2⟩ := ihb h2
  exact ⟨c1 ++ c2, by simp, c1, c2, rfl, g1, g2⟩
 | arr n t ih =>
  intro cs r h
  have key : ∀ (n : Nat) {r : List Value}, (n.rec (some cs) fun _ o => o.bind (rdZ t) : Option (List Value)) = some r -> ∃ c1, cs = c1 ++ r /\ ArRd (Rd w I t) (List.replicate n t.zero) c1 := by
   intro n
   induction n with
   | zero => intro r h; cases h; exact ⟨[], rfl, rfl⟩
   | succ n ihn =>
    intro r h
    simp only [Option.bind_eq_some_iff] at h
    obtain ⟨m, h1, h2⟩ := h
    obtain ⟨c1, rfl, g1⟩ := ihn h1
    obtain ⟨c2, rfl, g2⟩ := ih h2
    refine ⟨c1 ++ c2, by simp, ?_⟩
    have app : ∀ {xs : List t.den} {c1 c2 : List Value} {y : t.den}, ArRd (Rd w I t) xs c1 -> Rd w I t y c2 -> ArRd (Rd w I t) (xs ++ [y]) (c1 ++ c2) := by
     intro xs
     induction xs with
     | nil => intro c1 c2 y h1 h2; have h1 : c1 = [] := h1; subst h1; exact ⟨c2, [], by simp, h2, rfl⟩
     | cons x xs ihx => rintro c1 c2 y ⟨d1, d2, rfl, e1, e2⟩ h2; exact ⟨d1, d2 ++ c2, by simp, e1, ihx e2 h2⟩
    rw [show List.replicate (n + 1) t.zero = List.replicate n t.zero ++ [t.zero] from List.replicate_succ']
    exact app g1 g2
  obtain ⟨c1, h1, h2⟩ := key n h
  exact ⟨c1, h1, by simp [Ty.zero], h2⟩
 | opq =>
  intro cs r h
  unfold rdZ at h
  split at h <;> try contradiction
  rename_i v _ _
  split at h
  ·rename_i hv; cases h; exact ⟨[v], rfl, v, rfl, hv⟩
  ·cases h
 | ptr t _ =>
  intro cs r h
  simp [rdZ] at h
 | nat =>
  intro cs r h
  simp [rdZ] at h
def ZL : LV -> Prop
 | .val t x => x = t.zero
 | .nil => True
 | .nilp => True
 | _ => False
theorem wl1 {E : Env} : ∀ {n : Nat} {t : TypeId} {l : List LV}, E.zeroL n t = some l -> ∀ v, v ∈ l -> ZL v
 | 0, _, _, h => by simp [Env.zeroL] at h
 | n + 1, t, l, h => by
  simp only [Env.zeroL, Option.bind_eq_some_iff] at h
  obtain ⟨i, hi, h⟩ := h
  split at h
  ·cases h; intro v hv; rw [List.mem_singleton] at hv; subst hv; rfl
  ·cases h; intro v hv; rw [List.mem_singleton] at hv; subst hv; trivial
  ·cases h; intro v hv; rw [List.mem_singleton] at hv; subst hv; trivial
  ·rename_i fs _
   simp only [Option.map_eq_some_iff] at h
   obtain ⟨ls, h1, rfl⟩ := h
   have key : ∀ {fs : List Nat} {ls : List (List LV)}, fs.mapM (E.zeroL n) = some ls -> ∀ l, l ∈ ls -> ∀ v, v ∈ l -> ZL v := by
    intro fs
    induction fs with
    | nil => intro ls h l hl; simp at h; subst h; cases hl
    | cons f fs ih =>
     intro ls h l hl
     rw [List.mapM_cons] at h
     simp only [Option.bind_eq_bind, Option.bind_eq_some_iff, Option.pure_def, Option.some.injEq] at h
     obtain ⟨a, ha, b, hb, rfl⟩ := h
     rcases List.mem_cons.1 hl with rfl | hl
     ·exact wl1 ha
     ·exact ih hb l hl
   intro v hv
   obtain ⟨l, hl, hv⟩ := List.mem_flatten.1 hv
   exact key h1 l hl v hv
  ·simp only [Option.map_eq_some_iff] at h
   obtain ⟨u, hu, rfl⟩ := h
   intro v hv; rw [List.mem_singleton] at hv; subst hv; rfl
  ·cases h
def lsZ : List LV -> List Value -> Bool
 | [], [] => true
 | .val t _ :: l, cs => match rdZ t cs with
  | some r => lsZ l r
  | none => false
 | .nil :: l, .slice none n c :: cs => decide (n = 0 /\ c = 0) && lsZ l cs
 | .nilp :: l, .pointer none :: cs => lsZ l cs
 | _, _ => false
theorem y7m (w : World) (I : Nat -> Prop) (h : Hv) : ∀ {l : List LV} {cs : List Value}, (∀ v, v ∈ l -> ZL v) -> lsZ l cs = true -> LsRd w I h l cs
 | [], [], _, _ => rfl
 | .val t x :: l, cs, hz, hl => by
  have hx : x = t.zero := hz _ (List.mem_cons_self ..)
  subst hx
  simp only [lsZ] at hl
  split at hl
  ·rename_i r hr
   obtain ⟨c1, rfl, g⟩ := w28 w I hr
   exact ⟨c1, r, rfl, g, y7m w I h (fun v hv => hz v (List.mem_cons_of_mem _ hv)) hl⟩
  ·cases hl
 | .nil :: l, cs, hz, hl => by
  unfold lsZ at hl
  split at hl <;> try contradiction
  ·rename_i he; cases he
  ·rename_i he; cases he
   simp only [Bool.and_eq_true, decide_eq_true_eq] at hl
   obtain ⟨⟨rfl, rfl⟩, hl⟩ := hl
   exact ⟨[.slice none 0 0], _, rfl, rfl, y7m w I h (fun v hv => hz v (List.mem_cons_of_mem _ hv)) hl⟩
  ·rename_i he; cases he
 | .nilp :: l, cs, hz, hl => by
  unfold lsZ at hl
  split at hl <;> try contradiction
  ·rename_i he; cases he
  ·rename_i he; cases he
  ·rename_i he; cases he
   exact ⟨[.pointer none], _, rfl, rfl, y7m w I h (fun v hv => hz v (List.mem_cons_of_mem _ hv)) hl⟩
 | [], _ :: _, _, hl => by simp [lsZ] at hl
 | .own _ :: _, _, hz, _ => (hz _ (List.mem_cons_self ..)).elim
 | .pre _ _ :: _, _, hz, _ => (hz _ (List.mem_cons_self ..)).elim
 | .pbox _ _ :: _, _, hz, _ => (hz _ (List.mem_cons_self ..)).elim
 | .pboxA _ _ _ _ _ :: _, _, hz, _ => (hz _ (List.mem_cons_self ..)).elim
 | .pbuf _ _ _ _ :: _, _, hz, _ => (hz _ (List.mem_cons_self ..)).elim
 | .pimm _ _ :: _, _, hz, _ => (hz _ (List.mem_cons_self ..)).elim
 | .clos _ :: _, _, hz, _ => (hz _ (List.mem_cons_self ..)).elim
 | .func _ :: _, _, hz, _ => (hz _ (List.mem_cons_self ..)).elim
def we3 (P : Program) (E : Env) (t : TypeId) (ti : TI) : Bool :=
 match P.info? t with
 | none => false
 | some i => decide (i.size = ti.ty.sz) && decide (i.bytes = ti.bytes) && match i.zero with
  | none => false
  | some z => (match z with | .agg _ => ti.ty.agg | z => !ti.ty.agg && cell1 z) && (match rdZ ti.ty z.cells.toList with | some [] => true | _ => false) && match E.zeroL 20 t with
   | none => true
   | some l => lsZ l z.cells.toList
def wc8 (E : Env) (ti : TI) (fs : List Nat) (i : Nat) (f : Field) : Bool :=
 match fs[i]?, E.fieldAt fs i with
 | some t', some (n, t'') => decide (t'' = t') && decide (f.type = t') && decide (f.offset = n) && match z4e ti.ty fs.length i, E.ty? t' with
  | some (m, u), some u' => decide (m = n /\ u = u')
  | _, _ => false
 | _, _ => false
def v0g (P : Program) (E : Env) (t : TypeId) (ti : TI) : Bool :=
 match P.underlying t with
 | none => false
 | some d => decide ((match d with | .struct _ | .array _ _ => true | _ => false) = ti.ty.agg) && match ti.kd, d with
  | .sc, .bool => decide (ti.ty = .bool)
  | .sc, .int k => decide (ti.ty = .int k)
  | .sc, .string => decide (ti.ty = .str)
  | .sc, .interface _ => decide (ti.ty = .err)
  | .slice e, .slice e' => decide (e' = e) && match E.ti e with
   | some te => decide (ti.ty = .slice te.ty \/ ti.ty = .nsl te.ty)
   | none => false
  | .st fs, .struct fields => decide ((fs.map fun t => (E.sz t).getD 0).sum = ti.ty.sz) && decide (fields.size = fs.length) && (List.range fields.size).all fun i => match fields[i]? with
   | some f => wc8 E ti fs i f
   | none => true
  | .ar n e, .array n' e' => decide (n' = n /\ e' = e) && match E.ti e with
   | some te => decide (ti.ty = .arr n te.ty)
   | none => false
  | .ptr e, .pointer e' => decide (e' = e /\ ti.ty = .opq)
  | .other, _ => decide (ti.ty = .opq)
  | _, _ => false
theorem w4i {P : Program} {E : Env} {t : TypeId} {ti : TI} (h : we3 P E t ti = true) : ∃ i, P.info? t = some i /\ i.size = ti.ty.sz /\ i.bytes = ti.bytes /\ ∃ z, i.zero = some z /\ (if ti.ty.agg then ∃ cs, z = .agg cs else cell1 z = true) /\
  (∀ w I, Rd w I ti.ty ti.ty.zero z.cells.toList) /\ ∀ l, E.zeroL 20 t = some l -> ∀ w I h, LsRd w I h l z.cells.toList := by
 unfold we3 at h
 split at h
 ·cases h
 ·rename_i i hi
  simp only [Bool.and_eq_true, decide_eq_true_eq] at h
  obtain ⟨⟨h1, h2⟩, h3⟩ := h
  split at h3
  ·cases h3
  ·rename_i z hz
   simp only [Bool.and_eq_true] at h3
   obtain ⟨⟨h4, h5⟩, h6⟩ := h3
   refine ⟨i, hi, h1, h2, z, hz, ?_, fun w I => ?_, fun l hl w I hv => ?_⟩
   ·split at h4
    ·rw [h4]; exact ⟨_, rfl⟩
    ·simp only [Bool.and_eq_true, Bool.not_eq_true'] at h4
     rw [h4.1]; exact h4.2
   ·split at h5
    ·rename_i hr
     obtain ⟨c1, e, g⟩ := w28 w I hr
     rw [List.append_nil] at e
     rw [e]; exact g
    ·cases h5
   ·rw [hl] at h6
    exact y7m w I hv (wl1 hl) h6
theorem w93 {P : Program} {E : Env} {t : TypeId} {ti : TI} (h : v0g P E t ti = true) : ∃ d, P.underlying t = some d /\ (match d with | .struct _ | .array _ _ => true | _ => false) = ti.ty.agg /\ match ti.kd with
  | .sc => match ti.ty with
   | .bool => d = .bool
   | .int k => d = .int k
   | .str => d = .string
   | .err => ∃ ms, d = .interface ms
   | _ => False
  | .slice e => d = .slice e /\ ∃ te, E.ti e = some te /\ (ti.ty = .slice te.ty \/ ti.ty = .nsl te.ty)
  | .st fs => (fs.map fun t => (E.sz t).getD 0).sum = ti.ty.sz /\ ∃ fields, d = .struct fields /\ fields.size = fs.length /\ ∀ i f, fields[i]? = some f -> ∃ t' n, fs[i]? = some t' /\ E.fieldAt fs i = some (n, t') /\ f.type = t' /\ f.offset = n /\
    z4e ti.ty fs.length i = (E.ty? t').map fun u => (n, u)
  | .ar n e => d = .array n e /\ ∃ te, E.ti e = some te /\ ti.ty = .arr n te.ty
  | .ptr e => d = .pointer e /\ ti.ty = .opq
  | .other => ti.ty = .opq := by
 unfold v0g at h
 split at h
 ·cases h
 ·rename_i d hd
  rw [Bool.and_eq_true, decide_eq_true_eq] at h
  obtain ⟨h1, h2⟩ := h
  refine ⟨d, hd, h1, ?_⟩
  obtain ⟨ty, kd, bytes⟩ := ti
  simp only at h2 ⊢
  split at h2
  ·simp only [decide_eq_true_eq] at h2; subst h2; rfl
  ·simp only [decide_eq_true_eq] at h2; subst h2; rfl
  ·simp only [decide_eq_true_eq] at h2; subst h2; rfl
  ·simp only [decide_eq_true_eq] at h2; subst h2; exact ⟨_, rfl⟩
  ·rename_i e e'
   simp only [Bool.and_eq_true, decide_eq_true_eq] at h2
   obtain ⟨rfl, h2⟩ := h2
   refine ⟨rfl, ?_⟩
   split at h2
   ·rename_i te hte; exact ⟨te, hte, by simpa using h2⟩
   ·cases h2
  ·rename_i fs fields
   simp only [Bool.and_eq_true, decide_eq_true_eq] at h2
   obtain ⟨⟨h3, h4⟩, h5⟩ := h2
   refine ⟨h3, fields, rfl, h4, fun i f hf => ?_⟩
   rw [List.all_eq_true] at h5
   have h6 := h5 i (List.mem_range.2 (Array.getElem?_eq_some_iff.1 hf).1)
   rw [hf] at h6
   simp only [wc8] at h6
   split at h6
   ·rename_i t' n t'' e1 e2
    simp only [Bool.and_eq_true, decide_eq_true_eq] at h6
    obtain ⟨⟨⟨rfl, h7⟩, h8⟩, h9⟩ := h6
    refine ⟨_, n, e1, e2, h7, h8, ?_⟩
    split at h9
    ·rename_i m u u' e3 e4
     simp only [decide_eq_true_eq] at h9
     obtain ⟨rfl, rfl⟩ := h9
     rw [e3, e4]; rfl
    ·cases h9
   ·cases h6
  ·rename_i n e n' e'
   simp only [Bool.and_eq_true, decide_eq_true_eq] at h2
   obtain ⟨⟨rfl, rfl⟩, h2⟩ := h2
   refine ⟨rfl, ?_⟩
   split at h2
   ·rename_i te hte; exact ⟨te, hte, by simpa using h2⟩
   ·cases h2
  ·simp only [decide_eq_true_eq] at h2; obtain ⟨rfl, rfl⟩ := h2; exact ⟨rfl, rfl⟩
  ·simpa using h2
  ·cases h2
def wx1 (P : Program) (E : Env) (t : TypeId) (ti : TI) : Bool :=
 match ti.kd with
 | .st fs => !E.intSt fs || (!P.stoodInHeld t && !P.eqGuardType P.depth t && (P.fieldsOf t).toList.all fun f => decide (f.name ≠ "_"))
 | _ => true
theorem w87 {P : Program} {E : Env} {t : TypeId} {ti : TI} (h : wx1 P E t ti = true) : ∀ fs, ti.kd = .st fs -> E.intSt fs = true -> P.stoodInHeld t = false /\ P.eqGuardType P.depth t = false /\ ∀ f ∈ (P.fieldsOf t).toList, f.name ≠ "_" := by
 intro fs hk hi
 simp only [wx1, hk, hi, Bool.not_true, Bool.false_or, Bool.and_eq_true, Bool.not_eq_true', List.all_eq_true, decide_eq_true_eq] at h
 exact ⟨h.1.1, h.1.2, h.2⟩
def wx0 (P : Program) (E : Env) (t : TypeId) (ti : TI) : Bool :=
 match ti.kd with
 | .ar _ e => match E.ty? e with
  | some (.int _) => !P.eqGuardType P.depth t
  | _ => true
 | _ => true
theorem w86 {P : Program} {E : Env} {t : TypeId} {ti : TI} (h : wx0 P E t ti = true) : ∀ n e k, ti.kd = .ar n e -> E.ty? e = some (.int k) -> P.eqGuardType P.depth t = false := by
 intro n e k hk he
 simpa only [wx0, hk, he, Bool.not_eq_true'] using h
def v3h (P : Program) (E : Env) : Bool := E.te.all fun p => we3 P E p.1 p.2 && v0g P E p.1 p.2 && wx1 P E p.1 p.2 && wx0 P E p.1 p.2
theorem v1f {P : Program} {E : Env} (h : v3h P E = true) : EOk P E := by
 refine ⟨fun t ti ht => ?_⟩
 unfold v3h at h
 rw [List.all_eq_true] at h
 have := h _ (zo4 ht)
 rw [Bool.and_eq_true, Bool.and_eq_true, Bool.and_eq_true] at this
 exact ⟨w4i this.1.1.1, w93 this.1.1.2, w87 this.1.2, w86 this.2⟩
theorem ys3 (te : TE) (sp sp' : List (FuncId × Spec)) (bd bd' : List (FuncId × Func)) (fl fl' : List TypeId) (ro ro' : Bool) (sq sq' : List (FuncId × Spec)) : ∀ (l : List Nat) (i : Nat), Env.fieldAt ⟨te, sp, bd, fl, ro, sq⟩ l i = Env.fieldAt ⟨te, sp', bd', fl', ro', sq'⟩ l i
 | [], _ => rfl
 | _ :: _, 0 => rfl
 | t :: r, i + 1 => by simp only [Env.fieldAt, ys3 te sp sp' bd bd' fl fl' ro ro' sq sq' r i]; rfl
theorem w7k (te : TE) (sp sp' : List (FuncId × Spec)) (bd bd' : List (FuncId × Func)) (fl fl' : List TypeId) (ro ro' : Bool) (sq sq' : List (FuncId × Spec)) : ∀ (n : Nat), Env.zeroL ⟨te, sp, bd, fl, ro, sq⟩ n = Env.zeroL ⟨te, sp', bd', fl', ro', sq'⟩ n
 | 0 => rfl
 | n + 1 => by funext t; simp only [Env.zeroL, w7k te sp sp' bd bd' fl fl' ro ro' sq sq' n]; rfl
theorem z1f {P : Program} {te : TE} {sp sp' : List (FuncId × Spec)} {bd bd' : List (FuncId × Func)} {fl fl' : List TypeId} {ro ro' : Bool} {sq sq' : List (FuncId × Spec)} (k : EOk P ⟨te, sp, bd, fl, ro, sq⟩) : EOk P ⟨te, sp', bd', fl', ro', sq'⟩ := by
 refine ⟨fun t ti ht => ?_⟩
 obtain ⟨⟨i, h1, h2, h3, z, h4, h5, h6, h7⟩, hu, hq, hqa⟩ := k.te t ti ht
 refine ⟨⟨i, h1, h2, h3, z, h4, h5, h6, fun l hl => h7 l (by rw [w7k te sp sp' bd bd' fl fl' ro ro' sq sq' 20]; exact hl)⟩, ?_, hq, hqa⟩
 obtain ⟨d, g1, g2, g3⟩ := hu
 refine ⟨d, g1, g2, ?_⟩
 split at g3
 ·exact g3
 ·exact g3
 ·rename_i fs _
  obtain ⟨e1, fields, e2, e3, e4⟩ := g3
  refine ⟨e1, fields, e2, e3, fun i f hf => ?_⟩
  obtain ⟨t', n, q1, q2, q3⟩ := e4 i f hf
  exact ⟨t', n, q1, by rw [<- ys3 te sp sp' bd bd' fl fl' ro ro' sq sq' fs i]; exact q2, q3⟩
 ·exact g3
 ·exact g3
 ·exact g3
end Vm
/- What the printed texts lean on. -/
namespace Vm
open Go
@[irreducible] def fuel : Nat := 2 ^ 250
section
variable {P : Program} {E : Env} {L : z1t}
theorem z0i {path : List FuncId} {n : Nat} {c : Code} {i : Nat} (h : (y4f c).length = i) : w5n E L path n c i [] := h
theorem wg4 {α β : Type} [DecidableEq β] {g : Option (List α) -> Option β} {xs : List α} {r : β} (h : ((g (some xs)).bind fun r => if xs.isEmpty then (if g none = some r then some r else none) else some r) = some r) :
  g (some xs) = some r /\ (xs = [] -> g none = some r) := by
 rw [Option.bind_eq_some_iff] at h
 obtain ⟨r', h1, h2⟩ := h
 split at h2
 ·split at h2
  ·rename_i h3; cases h2; exact ⟨h1, fun _ => h3⟩
  ·cases h2
 ·rename_i h3; cases h2; exact ⟨h1, fun e => absurd (by rw [e]; rfl) h3⟩
theorem w2x {w : World} {I : Nat -> Prop} {t : Ty} {x : List t.den} {v : Value} (h : ValRd w I (.slice t) x v) : ValRd w I (.nsl t) (some x) v \/ x = [] /\ ValRd w I (.nsl t) none v := by
 obtain ⟨⟨A, n, c, hc, hs⟩, hag⟩ := h
 cases A with
 | none => exact .inr ⟨hs.2.1, ⟨none, n, c, hc, by have h2 := hs.2.1; rw [h2] at hs; exact hs, by simp⟩, hag⟩
 | some a => exact .inl ⟨⟨some a, n, c, hc, hs, by simp⟩, hag⟩
theorem wy2 {f : FuncId} {a b t : Ty} {rs : List RM} [DecidableEq (yo5 rs)] {g : yn2 [a, b, .nsl t] -> Option (yo5 rs)} (h : Spec.holds P f { ps := [a, b, .nsl t], rs := rs, f := g }) :
  Spec.holds P f { ps := [a, b, .slice t], rs := rs, f := fun x => (g (x.1, x.2.1, some x.2.2)).bind fun r => if x.2.2.isEmpty then (if g (x.1, x.2.1, none) = some r then some r else none) else some r } := by
 intro w I vs x r hI hargs hr
 obtain ⟨h1, h2⟩ := wg4 (g := fun y => g (x.1, x.2.1, y)) hr
 obtain ⟨v1, vs1, e1, k1, v2, vs2, e2, k2, v3, e3, k3⟩ := hargs
 rcases w2x k3 with k3 | ⟨hx, k3⟩
 ·exact h w I vs (x.1, x.2.1, some x.2.2) r hI ⟨v1, vs1, e1, k1, v2, vs2, e2, k2, v3, e3, k3⟩ h1
 ·exact h w I vs (x.1, x.2.1, none) r hI ⟨v1, vs1, e1, k1, v2, vs2, e2, k2, v3, e3, k3⟩ (h2 hx)
theorem wy3 {f : FuncId} {a b t d : Ty} {rs : List RM} [DecidableEq (yo5 rs)] {g : yn2 [a, b, .nsl t, d] -> Option (yo5 rs)} (h : Spec.holds P f { ps := [a, b, .nsl t, d], rs := rs, f := g }) :
  Spec.holds P f { ps := [a, b, .slice t, d], rs := rs, f := fun x => (g (x.1, x.2.1, some x.2.2.1, x.2.2.2)).bind fun r => if x.2.2.1.isEmpty then (if g (x.1, x.2.1, none, x.2.2.2) = some r then some r else none) else some r } := by
 intro w I vs x r hI hargs hr
 obtain ⟨h1, h2⟩ := wg4 (g := fun y => g (x.1, x.2.1, y, x.2.2.2)) hr
 obtain ⟨v1, vs1, e1, k1, v2, vs2, e2, k2, v3, vs3, e3, k3, k4⟩ := hargs
 rcases w2x k3 with k3 | ⟨hx, k3⟩
 ·exact h w I vs (x.1, x.2.1, some x.2.2.1, x.2.2.2) r hI ⟨v1, vs1, e1, k1, v2, vs2, e2, k2, v3, vs3, e3, k3, k4⟩ h1
 ·exact h w I vs (x.1, x.2.1, none, x.2.2.2) r hI ⟨v1, vs1, e1, k1, v2, vs2, e2, k2, v3, vs3, e3, k3, k4⟩ (h2 hx)
def w5m (P : Program) : List (FuncId × Spec) -> Prop
 | [] => True
 | (f, c) :: r => (z7h P f = true /\ c.holds P f) /\ w5m P r
theorem z0m (h : w5m P E.spec) (h2 : w5m P E.spec2 := by exact trivial) : z6j P E := by
 have key : ∀ {l : List (FuncId × Spec)}, w5m P l -> ∀ f c, look f l = some c -> z7h P f = true /\ c.holds P f := by
  intro l
  induction l with
  | nil => intro _ f c hl; simp [look] at hl
  | cons p l ih =>
   obtain ⟨g, d⟩ := p
   rintro ⟨h1, h2⟩ f c hl
   by_cases e : f = g
   ·subst e; rw [z1m] at hl; cases hl; exact h1
   ·rw [z16 _ _ e] at hl; exact ih h2 f c hl
 exact ⟨fun f c hl => key h f c hl, fun f c hl => key h2 f c hl⟩
def w34 (P : Program) : List (FuncId × Func) -> Prop
 | [] => True
 | (f, fn) :: r => P.funcs[f]? = some fn /\ z7h P f = true /\ w34 P r
theorem z7u (h : w34 P E.body) : y3n P E := by
 have key : ∀ {l : List (FuncId × Func)}, w34 P l -> ∀ f c, look f l = some c -> P.funcs[f]? = some c /\ z7h P f = true := by
  intro l
  induction l with
  | nil => intro _ f c hl; simp [look] at hl
  | cons p l ih =>
   obtain ⟨g, d⟩ := p
   rintro ⟨h1, h2, h3⟩ f c hl
   by_cases e : f = g
   ·subst e; rw [z1m] at hl; cases hl; exact ⟨h1, h2⟩
   ·rw [z16 _ _ e] at hl; exact ih h3 f c hl
 exact fun f c hl => key h f c hl
theorem z07 (h : E.body = []) : y3n P E := z7u (by rw [h]; trivial)
def yu4 (E : Env) (L : z1t) : List (FuncId × Func) -> Prop
 | [] => True
 | (f, fn) :: r => (∀ path, Stepped E L (f :: path) fn.ntmps (w0z fn)) /\ yu4 E L r
theorem z3b (h : yu4 E L E.body) : zc9 E L := by
 have key : ∀ {l : List (FuncId × Func)}, yu4 E L l -> ∀ f fn, look f l = some fn -> ∀ path, Stepped E L (f :: path) fn.ntmps (w0z fn) := by
  intro l
  induction l with
  | nil => intro _ f c hl; simp [look] at hl
  | cons p l ih =>
   obtain ⟨g, d⟩ := p
   rintro ⟨h1, h2⟩ f c hl
   by_cases e : f = g
   ·subst e; rw [z1m] at hl; cases hl; exact h1
   ·rw [z16 _ _ e] at hl; exact ih h2 f c hl
 intro f fn c path hl hc
 have := key h f fn hl path
 unfold w0z at this
 rw [hc] at this
 exact this
theorem z01 (h : E.body = []) : zc9 E L := z3b (by rw [h]; trivial)
def w9h (E : Env) (L : z1t) (f : FuncId) (n : Nat) (c : Code) : List (List FuncId) -> Prop
 | [] => True
 | p :: r => Stepped E L (f :: p) n c /\ w9h E L f n c r
theorem z25 {f : FuncId} {n : Nat} {c : Code} (ps : List (List FuncId)) (h : w9h E L f n c ps) (hk : (L.all fun q => match q.1 with | g :: p => decide (g ≠ f) || ps.contains p | [] => true) = true) :
  ∀ path, Stepped E L (f :: path) n c := by
 intro path
 by_cases hp : path ∈ ps
 ·have key : ∀ {ps : List (List FuncId)}, w9h E L f n c ps -> path ∈ ps -> Stepped E L (f :: path) n c := by
   intro ps
   induction ps with
   | nil => intro _ h; cases h
   | cons p ps ih =>
    rintro ⟨h1, h2⟩ hm
    rcases List.mem_cons.1 hm with rfl | hm
    ·exact h1
    ·exact ih h2 hm
  exact key h hp
 ·refine z0o ?_
  have key : ∀ {M : z1t}, (M.all fun q => match q.1 with | g :: p => decide (g ≠ f) || ps.contains p | [] => true) = true -> w1u (f :: path) M = none := by
   intro M
   induction M with
   | nil => intro _; rfl
   | cons q M ih =>
    intro h
    rw [List.all_cons, Bool.and_eq_true] at h
    obtain ⟨q, a⟩ := q
    simp only [w1u]
    split
    ·rename_i e
     subst e
     have h1 := h.1
     simp only [ne_eq, not_true_eq_false, decide_false, Bool.false_or] at h1
     exact absurd (List.contains_iff_mem.1 h1) hp
    ·exact ih h.2
  exact key hk
theorem z0u (hE : EOk P E) (hS : z6j P E) (hm : P.follows .mixedOrders = true) (hB : y3n P E) (hBS : zc9 E L) {fid : FuncId} {fn : Func} {Z : Nat -> Spec}
  (hf : P.funcs[fid]? = some fn) (hc : fn.body = some (w0z fn)) (hst : Stepped E L [fid] fn.ntmps (w0z fn)) (hr : ∀ k x, wi5 E L k fid fn (Z k).ps (Z k).rs x = (Z k).f x) : Spec.holds P fid (Z fuel) :=
 wo1 hE hS hB (wm9 hE hS hm) hBS hf hc hst fun x r h => ⟨fuel, (hr fuel x).trans h⟩
end
end Vm
/- Rows: what is read of an argument is plain data. -/
namespace Vm
open Go
def Ty.bytes0 : Ty -> Nat
 | .bool => 1
 | .int k => k.bits / 8
 | .str => 16
 | .slice _ => 24
 | .pair a b => a.bytes0 + b.bytes0
 | .arr n t => n * t.bytes0
 | _ => 0
def Wf : (t : Ty) -> t.den -> Prop
 | .int k, n => k.min <= n /\ n <= k.max
 | .str, s => s.size <= 140737488351232
 | .slice t, xs => xs.length * t.bytes0 <= 140737488351232 /\ ∀ x, x ∈ xs -> Wf t x
 | .pair a b, x => Wf a x.1 /\ Wf b x.2
 | .arr n t, xs => xs.length = n /\ ∀ x, x ∈ xs -> Wf t x
 | _, _ => True
def w91 (E : Env) : List Nat -> Option Ty
 | [] => some .unit
 | [t] => E.ty? t
 | t :: t' :: r => (E.ty? t).bind fun a => (w91 E (t' :: r)).map fun b => .pair a b
def zl8 (E : Env) : Nat -> TypeId -> Bool
 | 0, _ => false
 | n + 1, t => match E.ti t with
  | none => false
  | some ti => match ti.kd with
   | .sc => match ti.ty with
    | .bool | .int _ | .str => true
    | _ => false
   | .slice e => zl8 E n e && match E.ti e with
    | some te => decide (te.ty.sz ≠ 0) && decide (ti.ty = .slice te.ty) && decide (te.ty.bytes0 <= te.bytes)
    | none => false
   | .st fs => decide (w91 E fs = some ti.ty) && fs.all (zl8 E n)
   | .ar _ e => zl8 E n e
   | _ => false
section
variable {P : Program} {E : Env} {w : World} {H : Type} {enc : TypeId × Value -> H}
abbrev All (w : World) (b : Nat) : Prop := b < w.heap.size
theorem y3s (hE : EOk P E) {t : TypeId} {ti : TI} (h : E.ti t = some ti) : P.cellsOf t = ti.ty.sz /\ P.bytesOf t = ti.bytes := by
 obtain ⟨i, h1, h2, h3, _⟩ := (hE.te t ti h).info
 unfold Program.cellsOf Program.bytesOf
 rw [h1]
 exact ⟨h2, h3⟩
theorem w4m {α : Type} {Q : Nat -> α -> Prop} : ∀ (n : Nat), (∀ i, i < n -> ∃ y, Q i y) -> ∃ xs : List α, xs.length = n /\ ∀ i y, xs[i]? = some y -> Q i y
 | 0, _ => ⟨[], rfl, by simp⟩
 | n + 1, h => by
  obtain ⟨xs, h1, h2⟩ := w4m n fun i hi => h i (by omega)
  obtain ⟨y, hy⟩ := h n (by omega)
  refine ⟨xs ++ [y], by simp [h1], fun i z hz => ?_⟩
  by_cases hi : i < n
  ·rw [List.getElem?_append_left (by omega)] at hz; exact h2 i z hz
  ·have := (List.getElem?_eq_some_iff.1 hz).1
   have hi' : i = n := by simp [h1] at this; omega
   subst hi'
   rw [List.getElem?_append_right (by omega), h1] at hz
   simp at hz
   subst hz; exact hy
theorem mapM_at {α β : Type} {f : α -> Option β} : ∀ {l : List α} {r : List β}, l.mapM f = some r -> r.length = l.length /\ ∀ (i : Nat) (x : α), l[i]? = some x -> f x = r[i]?
 | [], r, h => by simp at h; subst h; exact ⟨rfl, by simp⟩
 | a :: l, r, h => by
  rw [List.mapM_cons] at h
  simp only [Option.bind_eq_bind, Option.bind_eq_some_iff, Option.pure_def, Option.some.injEq] at h
  obtain ⟨b, hb, m, hm, rfl⟩ := h
  obtain ⟨h1, h2⟩ := mapM_at hm
  refine ⟨by simp [h1], fun i x hx => ?_⟩
  cases i with
  | zero => simp only [List.getElem?_cons_zero, Option.some.injEq] at hx; subst hx; exact hb
  | succ i => exact h2 i x hx
theorem y8f {a : Addr} {n : Nat} {cs : List Value} (h : w.cells? 0 a n = some cs) (hn : 0 < n) : ∃ C T fz, w.heap[a.block]? = some (.cells C T fz) /\ a.spot = none /\ a.off + n <= C.size /\ cs = (C.toList.drop a.off).take n /\ a.block < w.heap.size := by
 unfold World.cells? at h
 simp only [Nat.zero_le, if_true] at h
 obtain ⟨hl, hat⟩ := mapM_at h
 have hl : cs.length = n := by simpa using hl
 have hat : ∀ i, i < n -> w.cell? (a.add i) = cs[i]? := by
  intro i hi
  exact hat i i (by simp [hi])
 have h0 := hat 0 hn
 rw [List.getElem?_eq_getElem (by omega)] at h0
 unfold World.cell? at h0
 cases hb : w.heap[(a.add 0).block]? with
 | none => rw [hb] at h0; cases h0
 | some o =>
  rw [hb] at h0
  cases o with
  | cells C T fz =>
   have hblk : ∀ i, (a.add i).block = a.block := fun i => by unfold Addr.add; split <;> rfl
   rw [hblk] at hb
   have hsp : a.spot = none := by
    cases hs : a.spot with
    | none => rfl
    | some s =>
     exfalso
     have : (a.add 0).spot.isSome = true := by unfold Addr.add; simp [hs]
     simp [this] at h0
   have hadd : ∀ i, a.add i = ⟨a.block, a.off + i, none⟩ := fun i => by
    obtain ⟨b, o, s⟩ := a
    simp only at hsp
    subst hsp
    exact addr_add b o i
   have hC : ∀ i, i < n -> C[a.off + i]? = cs[i]? := by
    intro i hi
    have := hat i hi
    rw [hadd i] at this
    unfold World.cell? at this
    simp only [hb] at this
    simpa using this
   have hsz : a.off + n <= C.size := by
    have := hC (n - 1) (by omega)
    rw [List.getElem?_eq_getElem (by omega)] at this
    have := (Array.getElem?_eq_some_iff.1 this).1
    omega
   refine ⟨C, T, fz, hb, hsp, hsz, ?_, (Array.getElem?_eq_some_iff.1 hb).1⟩
   apply List.ext_getElem?
   intro i
   by_cases hi : i < n
   ·rw [<- hC i hi, List.getElem?_take_of_lt hi, List.getElem?_drop, Array.getElem?_toList]
   ·rw [List.getElem?_eq_none (by omega), List.getElem?_eq_none (by simp; omega)]
  | _ => simp at h0
theorem w2a {I : Nat -> Prop} : ∀ (fs : List Nat) (T : Ty) (cs : List Value), w91 E fs = some T -> cs.length = T.sz ->
  (∀ (i : Nat) (n t' : Nat), E.fieldAt fs i = some (n, t') -> ∃ u, E.ty? t' = some u /\ ∃ y : u.den, Rd w I u y ((cs.drop n).take u.sz) /\ Wf u y) -> ∃ y : T.den, Rd w I T y cs /\ Wf T y
 | [], T, cs, h, hl, _ => by
  simp only [w91, Option.some.injEq] at h
  subst h
  exact ⟨(), List.length_eq_zero_iff.1 hl, trivial⟩
 | [t], T, cs, h, hl, hf => by
  simp only [w91] at h
  obtain ⟨u, hu, y, hy, hw⟩ := hf 0 0 t rfl
  rw [h] at hu; cases hu
  rw [List.drop_zero, List.take_of_length_le (by omega)] at hy
  exact ⟨y, hy, hw⟩
 | t :: t' :: r, T, cs, h, hl, hf => by
  simp only [w91, Option.bind_eq_some_iff, Option.map_eq_some_iff] at h
  obtain ⟨a, ha, b, hb, rfl⟩ := h
  obtain ⟨u, hu, y, hy, hw⟩ := hf 0 0 t rfl
  rw [ha] at hu; cases hu
  simp only [Ty.sz] at hl
  obtain ⟨z, hz, hz'⟩ := w2a (t' :: r) b (cs.drop a.sz) hb (by simp; omega) (fun i n t2 h2 => by
    have : E.fieldAt (t :: t' :: r) (i + 1) = some (a.sz + n, t2) := by
      simp only [Env.fieldAt, Env.sz, ha, Option.map_some, Option.bind_some]
      rw [h2]; rfl
    obtain ⟨u, hu, y, hy, hw⟩ := hf (i + 1) _ _ this
    exact ⟨u, hu, y, by rw [List.drop_drop]; exact hy, hw⟩)
  rw [List.drop_zero] at hy
  exact ⟨(y, z), ⟨_, _, (List.take_append_drop a.sz cs).symm, hy, hz⟩, hw, hz'⟩
theorem w9m {α : Type} {R : α -> List Value -> Prop} {sz : Nat} : ∀ {xs : List α} {cs : List Value}, cs.length = xs.length * sz -> (∀ (i : Nat) (x : α), xs[i]? = some x -> R x ((cs.drop (i * sz)).take sz)) -> ArRd R xs cs
 | [], cs, hl, _ => List.length_eq_zero_iff.1 (by simpa using hl)
 | x :: xs, cs, hl, h => by
  have h0 := h 0 x rfl
  rw [Nat.zero_mul, List.drop_zero] at h0
  simp only [List.length_cons, Nat.add_mul, Nat.one_mul] at hl
  refine ⟨cs.take sz, cs.drop sz, (List.take_append_drop sz cs).symm, h0, w9m (sz := sz) (by rw [List.length_drop]; omega) fun i y hy => ?_⟩
  have := h (i + 1) y hy
  rw [List.drop_drop]
  rw [Nat.add_mul, Nat.one_mul, Nat.add_comm] at this
  exact this
theorem zy2 {e : TypeId} : ∀ {ds : List (DataW H)} {d : DataW H}, d ∈ ds -> ∀ n, n ∈ d.weights P e -> n ∈ DataW.weightsAll P e ds
 | d0 :: ds, d, hd, n, hn => by
  simp only [DataW.weightsAll, List.mem_append]
  rcases List.mem_cons.1 hd with rfl | hd
  ·exact .inl hn
  ·exact .inr (zy2 hd n hn)
 | [], _, hd, _, _ => by cases hd
theorem w6x : reachBytes = 140737488351232 := by decide
theorem yz6 (hE : EOk P E) : ∀ (fuel n : Nat) {t : TypeId} {ti : TI} {cs : List Value} {x : DataW H × List MemPlace}, E.ti t = some ti -> zl8 E n t = true -> DataW.trod enc P w 0 (fun _ => true) true fuel t cs = some x ->
  (∀ m, m ∈ x.1.weights P t -> m <= reachBytes) -> ∃ y : ti.ty.den, Rd w (All w) ti.ty y cs /\ Wf ti.ty y
 | fuel, 0, t, ti, cs, x, _, hp, _, _ => by simp [zl8] at hp
 | 0, n + 1, t, ti, cs, x, _, _, h, _ => by simp [DataW.trod] at h
 | fuel + 1, n + 1, t, ti, cs, x, ht, hp, h, hwt => by
  obtain ⟨d, hd, _, hm⟩ := (hE.te t ti ht).und
  have hcell := (y3s hE ht).1
  simp only [zl8, ht] at hp
  obtain ⟨ty, kd, bytes⟩ := ti
  simp only at hp hm hcell ⊢
  cases kd with
  | sc =>
   simp only at hp hm
   cases ty <;> simp only at hp hm <;> try contradiction
   ·subst hm
    obtain ⟨b, rfl, _⟩ := DataW.trod_bool hd h
    exact ⟨b, rfl, trivial⟩
   ·subst hm
    obtain ⟨k, rfl, _, hwf⟩ := DataW.trod_int hd h
    simp only [Lit.wf, Bool.and_eq_true, decide_eq_true_eq] at hwf
    exact ⟨k, rfl, hwf⟩
   ·subst hm
    obtain ⟨s, rfl, rfl, _⟩ := DataW.trod_string hd h
    refine ⟨s, rfl, ?_⟩
    have := hwt s.data.toList.length (by simp [DataW.weights])
    rw [w6x, Array.length_toList] at this
    exact this
  | slice e =>
   simp only [Bool.and_eq_true] at hp hm
   obtain ⟨hpe, hp⟩ := hp
   cases hte : E.ti e with
   | none => rw [hte] at hp; cases hp
   | some te =>
    rw [hte] at hp
    simp only [Bool.and_eq_true, decide_eq_true_eq] at hp
    obtain ⟨⟨hsz, hty⟩, hby⟩ := hp
    subst hty
    obtain ⟨rfl, _⟩ := hm
    obtain ⟨hce, hbe⟩ := y3s hE hte
    rcases DataW.trod_slice hd h with ⟨rfl, rfl⟩ | ⟨a, len, cap, elems, rest, n', hn', rfl, rfl, _, hl, _, hel, hat, hrest, _⟩
    ·exact ⟨[], ⟨none, 0, 0, rfl, rfl, rfl, rfl⟩, by simp [Wf]⟩
    ·cases hn'
     rw [hce] at hat hrest
     obtain ⟨hrl, hrat⟩ := hrest rfl
     have hbound : len * te.ty.bytes0 <= 140737488351232 := by
      have := hwt ((elems.map (·.1)).length + (rest.map (·.1)).length |> (· * P.bytesOf e)) (by simp [DataW.weights, hd])
      rw [w6x, hbe] at this
      simp only [List.length_map, hel] at this
      have h1 : len * te.ty.bytes0 <= len * te.bytes := Nat.mul_le_mul_left _ hby
      have h2 : len * te.bytes <= (len + rest.length) * te.bytes := Nat.mul_le_mul_right _ (by omega)
      omega
     have each : ∀ i, i < len -> ∃ y : te.ty.den, (∃ c, w.cells? 0 (a.add (i * te.ty.sz)) te.ty.sz = some c /\ Rd w (All w) te.ty y c) /\ Wf te.ty y := by
      intro i hi
      have h1 := hat i hi
      rw [List.getElem?_eq_getElem (by omega), Option.bind_eq_some_iff] at h1
      obtain ⟨c, hc, h1⟩ := h1
      obtain ⟨y, hy, hw⟩ := yz6 hE fuel n hte hpe h1 (fun m hm => hwt m (by
        simp only [DataW.weights, hd]
        refine List.mem_cons_of_mem _ (List.mem_append_left _ (zy2 (d := (elems[i]'(by omega)).1) ?_ m hm))
        exact List.mem_map.2 ⟨_, List.getElem_mem _, rfl⟩))
      exact ⟨y, ⟨c, hc, hy⟩, hw⟩
     obtain ⟨xs, hxl, hxs⟩ := w4m len each
     refine ⟨xs, ⟨some a, len, cap, rfl, hxl.symm, hl, ?_⟩, by rw [hxl]; exact hbound, fun z hz => ?_⟩
     ·by_cases hcap : cap = 0
      ·exact .inl hcap
      ·right
       have hall : ∀ i, i < cap -> ∃ c, w.cells? 0 (a.add (i * te.ty.sz)) te.ty.sz = some c := by
        intro i hi
        by_cases hil : i < len
        ·obtain ⟨_, ⟨c, hc, _⟩, _⟩ := each i hil; exact ⟨c, hc⟩
        ·have h1 := hrat (i - len) (by omega)
         rw [show len + (i - len) = i by omega, List.getElem?_eq_getElem (by omega), Option.bind_eq_some_iff] at h1
         obtain ⟨c, hc, _⟩ := h1
         exact ⟨c, hc⟩
       have hpos : 0 < te.ty.sz := Nat.pos_of_ne_zero hsz
       obtain ⟨c0, hc0⟩ := hall 0 (by omega)
       obtain ⟨C, T, fz, g1, g2, g3, g4, g5⟩ := y8f hc0 hpos
       have hsp : a.spot = none := by
        cases hs : a.spot with
        | none => rfl
        | some s => unfold Addr.add at g2; simp [hs] at g2
       obtain ⟨ab, ao, asp⟩ := a
       simp only at hsp
       subst hsp
       simp only [addr_add] at g1 g5 hall hxs
       refine ⟨rfl, g5, C, T, fz, g1, ?_, fun i z hz => ?_⟩
       ·obtain ⟨c1, hc1⟩ := hall (cap - 1) (by omega)
        obtain ⟨C', T', fz', q1, _, q3, _⟩ := y8f hc1 hpos
        rw [g1] at q1; cases q1
        have : (cap - 1) * te.ty.sz + te.ty.sz = cap * te.ty.sz := by rw [<- Nat.succ_mul]; congr 1; omega
        simp only at q3 ⊢; omega
       ·obtain ⟨⟨c, hc, hy⟩, _⟩ := hxs i z hz
        obtain ⟨C', T', fz', q1, _, _, q4, _⟩ := y8f hc hpos
        rw [g1] at q1; cases q1
        rw [q4] at hy
        exact hy
     ·obtain ⟨i, hi⟩ := List.getElem?_of_mem hz
      exact (hxs i z hi).2
  | st fs =>
   simp only [Bool.and_eq_true, decide_eq_true_eq] at hp hm
   obtain ⟨hst, hall⟩ := hp
   obtain ⟨_, fields, rfl, hfl, hfs⟩ := hm
   obtain ⟨xs, n', hn', rfl, hlen, hxl, hat⟩ := DataW.trod_struct hd h
   cases hn'
   refine w2a fs ty cs hst (by rw [hlen, hcell]) fun i off t' hf => ?_
   have hi : i < fs.length := by
    have key : ∀ (l : List Nat) (i : Nat) {q}, E.fieldAt l i = some q -> i < l.length := by
     intro l
     induction l with
     | nil => intro i q h; simp [Env.fieldAt] at h
     | cons t l ih =>
      intro i q h
      cases i with
      | zero => simp
      | succ i =>
       simp only [Env.fieldAt, Option.bind_eq_some_iff, Option.map_eq_some_iff] at h
       obtain ⟨_, _, p, hp, _⟩ := h
       have := ih i hp
       simp; omega
    exact key fs i hf
   have hfi : fields[i]? = some fields[i] := Array.getElem?_eq_getElem (by omega)
   obtain ⟨t2, off2, q1, q2, q3, q4, _⟩ := hfs i _ hfi
   rw [hf] at q2; cases q2
   have hmem : t' ∈ fs := List.mem_of_getElem? q1
   rw [List.all_eq_true] at hall
   have hpt := hall t' hmem
   have ⟨ti2, hti2⟩ : ∃ ti2, E.ti t' = some ti2 := by
    cases n with
    | zero => simp [zl8] at hpt
    | succ n =>
     simp only [zl8] at hpt
     cases hh : E.ti t' with
     | none => rw [hh] at hpt; cases hpt
     | some ti2 => exact ⟨ti2, rfl⟩
   have h1 := hat i _ hfi
   rw [List.getElem?_eq_getElem (by omega), q3, q4, (y3s hE hti2).1] at h1
   obtain ⟨y, hy, hw⟩ := yz6 hE fuel n hti2 hpt h1 (fun m hm => hwt m (by
     simp only [DataW.weights, hd]
     refine DataW.weights_mem_each (j := i) (t := t') (d := (xs[i]'(by omega)).1) ?_ ?_ m hm
     · rw [List.getElem?_map, Array.getElem?_toList, hfi]; simp [q3]
     · rw [List.getElem?_map, List.getElem?_eq_getElem (by omega)]; rfl))
   exact ⟨ti2.ty, by unfold Env.ty?; rw [hti2]; rfl, y, hy, hw⟩
  | ar m e =>
   simp only at hp hm
   obtain ⟨rfl, te, hte, rfl⟩ := hm
   obtain ⟨hce, _⟩ := y3s hE hte
   obtain ⟨xs, n', hn', rfl, hlen, hxl, hat⟩ := DataW.trod_array hd h
   cases hn'
   rw [hce] at hat
   have each : ∀ i, i < m -> ∃ y : te.ty.den, Rd w (All w) te.ty y ((cs.drop (i * te.ty.sz)).take te.ty.sz) /\ Wf te.ty y := by
    intro i hi
    have h1 := hat i hi
    rw [List.getElem?_eq_getElem (by omega)] at h1
    exact yz6 hE fuel n hte hp h1 (fun q hq => hwt q (by
      simp only [DataW.weights, hd]
      refine zy2 (d := (xs[i]'(by omega)).1) ?_ q hq
      exact List.mem_map.2 ⟨_, List.getElem_mem _, rfl⟩))
   obtain ⟨ys, hyl, hys⟩ := w4m m each
   refine ⟨ys, ⟨hyl, w9m (sz := te.ty.sz) (by rw [hlen, hcell, hyl]; rfl) fun i x hx => (hys i x hx).1⟩, hyl, fun z hz => ?_⟩
   obtain ⟨i, hi⟩ := List.getElem?_of_mem hz
   exact (hys i z hi).2
  | ptr e => simp at hp
  | other => simp at hp
end
end Vm
/- Rows: a law out of the contract of its function and the plain law. -/
namespace Vm
open Go
open Go.RowKit (Below Below.trod shut_bool)
def WfL : (ps : List Ty) -> yn2 ps -> Prop
 | [], _ => True
 | [t], x => Wf t x
 | t :: t' :: r, x => Wf t x.1 /\ WfL (t' :: r) x.2
def v0n (E : Env) : List TypeId -> Option (List Ty)
 | [] => some []
 | t :: r => if zl8 E 12 t then (E.ty? t).bind fun u => (v0n E r).map (u :: ·) else none
section
variable {P : Program} {E : Env} {w : World} {H : Type} {enc : TypeId × Value -> H}
theorem w4t (hE : EOk P E) {n : Nat} {t : TypeId} {ti : TI} (ht : E.ti t = some ti) (hp : zl8 E n t = true) {v : Value} {r : Reach} {base : Nat} (h : Value.okWide P w r base t v) :
  if ti.ty.agg then ∃ cs, v = .agg cs else cell1 v = true := by
 obtain ⟨d, hd, ha, hm⟩ := (hE.te t ti ht).und
 unfold Value.okWide at h
 rw [hd] at h
 rw [<- ha]
 cases n with
 | zero => simp [zl8] at hp
 | succ n =>
  simp only [zl8, ht] at hp
  obtain ⟨ty, kd, bytes⟩ := ti
  simp only at hp hm
  cases kd with
  | sc =>
   simp only at hp hm
   cases ty <;> simp only at hp hm <;> try contradiction
   all_goals
    subst hm
    simp only [Bool.false_eq_true, if_false]
    unfold Cell.okWide at h
    rw [hd] at h
    cases v <;> first
     | rfl
     | (simp only [Cell.ok, hd] at h; done)
     | (simp [Cell.ok, hd] at h; done)
  | slice e =>
   obtain ⟨rfl, _⟩ := hm
   simp only [Bool.false_eq_true, if_false]
   unfold Cell.okWide at h
   rw [hd] at h
   cases v <;> first
    | rfl
    | (simp [Cell.ok, hd] at h; done)
  | st fs =>
   obtain ⟨_, fields, rfl, _⟩ := hm
   simp only [if_true]
   obtain ⟨cs, rfl, _⟩ := h
   exact ⟨cs, rfl⟩
  | ar m e =>
   obtain ⟨rfl, _⟩ := hm
   simp only [if_true]
   obtain ⟨cs, rfl, _⟩ := h
   exact ⟨cs, rfl⟩
  | ptr e => simp at hp
  | other => simp at hp
theorem wr2 {t : TypeId} {u : Ty} (h : E.ty? t = some u) : ∃ ti, E.ti t = some ti /\ ti.ty = u := z74 h
theorem w3u (hE : EOk P E) : ∀ {ts : List TypeId} {ps : List Ty} {vs : List Value} {ds : List (DataW H)} {pl : List MemPlace}, v0n E ts = some ps -> DataW.TrodAll enc P w 0 (fun _ => true) true ts vs ds pl ->
  (∀ (j : Nat) t v, ts[j]? = some t -> vs[j]? = some v -> ∃ r base, Value.okWide P w r base t v) -> (∀ m, m ∈ DataW.weightsEach P ts ds -> m <= reachBytes) -> ∃ x : yn2 ps, ArgsRd w (All w) ps x vs /\ WfL ps x
 | [], ps, vs, ds, pl, hp, h, _, _ => by
  simp only [v0n, Option.some.injEq] at hp
  subst hp
  obtain ⟨rfl, _, _⟩ := Go.ChangeShapes.trodAll_nil h
  exact ⟨(), rfl, trivial⟩
 | t :: ts, ps, vs, ds, pl, hp, h, hv, hw => by
  simp only [v0n] at hp
  split at hp
  ·rename_i hpl
   simp only [Option.bind_eq_some_iff, Option.map_eq_some_iff] at hp
   obtain ⟨u, hu, us, hus, rfl⟩ := hp
   obtain ⟨v, vs', d, ds', p, q, rfl, rfl, _, hd, hrest⟩ := Go.ChangeShapes.trodAll_cons h
   obtain ⟨ti, hti, rfl⟩ := wr2 hu
   obtain ⟨r, base, hok⟩ := hv 0 t v rfl rfl
   have hform := w4t hE hti hpl hok
   obtain ⟨fuel, hf⟩ := hd
   obtain ⟨y, hy, hyw⟩ := yz6 hE fuel 12 hti hpl hf (fun m hm => hw m (by simp only [DataW.weightsEach, List.mem_append]; exact .inl hm))
   obtain ⟨z, hz, hzw⟩ := w3u hE hus hrest (fun j t v h1 h2 => hv (j + 1) t v h1 h2) (fun m hm => hw m (by simp only [DataW.weightsEach, List.mem_append]; exact .inr hm))
   cases us with
   | nil =>
    have : vs' = [] := hz
    subst this
    exact ⟨y, ⟨v, rfl, hy, hform⟩, hyw⟩
   | cons u2 us => exact ⟨(y, z), ⟨v, vs', rfl, ⟨hy, hform⟩, hz⟩, hyw, hzw⟩
  ·cases hp
theorem yg3 (hl : laidOutB P = true) {w' : World} (hb : Below w.heap.size w w') : ∀ {ts : List TypeId} {vs : List Value} {ds : List (DataW H)} {pl : List MemPlace}, (ts.all fun t => P.readableRec t && decide (t < P.types.size)) = true ->
  DataW.TrodAll enc P w 0 (fun _ => true) true ts vs ds pl -> DataW.TrodAll enc P w' 0 (fun b => decide (b < w.heap.size)) true ts vs ds pl
 | [], vs, ds, pl, _, h => by
  obtain ⟨rfl, rfl, rfl⟩ := Go.ChangeShapes.trodAll_nil h
  exact rfl
 | t :: ts, vs, ds, pl, ht, h => by
  rw [List.all_cons, Bool.and_eq_true, Bool.and_eq_true, decide_eq_true_eq] at ht
  obtain ⟨v, vs', d, ds', p, q, rfl, rfl, rfl, hd, hrest⟩ := Go.ChangeShapes.trodAll_cons h
  exact ⟨p, q, Below.trod hl ht.1.1 ht.1.2 hd hb (by obtain ⟨m, hm⟩ := hd; exact DataW.trod_lt m _ _ _ hm), yg3 hl hb ht.2 hrest, rfl⟩
theorem trodAll_length : ∀ {ts : List TypeId} {vs : List Value} {ds : List (DataW H)} {pl : List MemPlace} {b : Nat} {sp : Nat -> Bool} {hd : Bool}, DataW.TrodAll enc P w b sp hd ts vs ds pl -> ds.length = ts.length
 | [], vs, ds, pl, b, sp, hd, h => by
  obtain ⟨_, rfl, _⟩ := Go.ChangeShapes.trodAll_nil h
  rfl
 | t :: ts, vs, ds, pl, b, sp, hd, h => by
  obtain ⟨v, vs', d, ds', p, q, rfl, rfl, rfl, _, hrest⟩ := Go.ChangeShapes.trodAll_cons h
  simp [trodAll_length hrest]
end
theorem v0m {H : Type} {enc : TypeId × Value -> H} {C : Checked} {os : Os} {f : FuncId} {fn : Func} {s : ChangeSpec} {conds : List PathCond} {E : Env} {ps : List Ty} {tb : TypeId} {g : yn2 ps -> Option (yo5 [RM.imm .bool])}
  (own : ownKnob C.prog.godebug = none) (started : os.Started) (noInit : C.prog.inits.idxOf? f = none) (hfn : C.prog.funcs[f]? = some fn)
  (witness : ∃ (w : World) (tape : Tape) (i : Input), w.os = os /\ (w.forCall tape i).Shaped C.prog /\ i.vars = [] /\ Input.okWide C.prog (w.forCall tape i) .any w.heap.size f i /\
    s.pre6 enc C.prog fn conds false (w.forCall tape i).memory i.args /\ ({} : Assume).holds C.prog (lone (Frame.enter C.prog f i.args .normal) [] (w.forCall tape i)))
  (hE : EOk C.prog E) (hlaid : laidOutB C.prog = true) (hread : (fn.params.toList.all fun t => C.prog.readableRec t && decide (t < C.prog.types.size)) = true) (hps : v0n E fn.params.toList = some ps)
  (hres : fn.resultTypes = #[tb]) (hbool : C.prog.underlying tb = some .bool) (hvars : s.vars = [])
  (hs : ∀ ds : List (DataW H), ds.length = fn.params.toList.length -> (s.fn H (ds ++ [])).results = [.lit (.bool true)] /\ (s.fn H (ds ++ [])).args = ds /\ (s.fn H (ds ++ [])).vars = [])
  (hspec : Spec.holds C.prog f { ps := ps, rs := [.imm .bool], f := g }) (hlaw : ∀ x, WfL ps x -> g x = some true) :
  ReturnsInHanded {} C os f .any (s.pre6 enc C.prog fn conds false) (s.post enc C.prog fn false true false false) := by
 refine returnsInHanded_of_change_sized own started noInit hfn witness ?_
 intro W base args ds gs before hval hW hcnd hsz _
 have hW' := hW
 obtain ⟨p, q, hA, hV, rfl, hfz, hnd⟩ := hW
 rw [hvars] at hV
 obtain ⟨rfl, rfl⟩ := Go.ChangeShapes.trodVars_none hV
 have hvt : s.plain.varTypes C.prog = [] := by
  have : s.plain.vars = s.vars := rfl
  unfold DataSpec.varTypes
  rw [this, hvars]
  rfl
 rw [hvt, List.append_nil, List.append_nil] at hsz
 rw [List.all_eq_true] at hsz
 obtain ⟨x, hx, hxw⟩ := w3u hE hps hA (fun j t v h1 h2 => ⟨_, _, hval j t v (by simpa using h1) (by simpa using h2)⟩) (fun m hm => by simpa using hsz m hm)
 refine (hspec W (All W) args x true (fun _ h => h) hx (hlaw x hxw)).mono fun e W' he => ?_
 cases e with
 | panicked _ => exact he.elim
 | outgrown => exact he.elim
 | returned v =>
  obtain ⟨hg, I', ys, bs, rfl, _, _, _, y, rfl, _, hy⟩ := he
  have hy1 : y = .bool true := by
   obtain ⟨h1, h2⟩ := hy
   simp only [Ty.agg, Bool.false_eq_true, if_false] at h2
   rw [z34 h2] at h1
   simpa [Rd] using h1
  subst hy1
  have bel : Below W.heap.size W W' := ⟨hg.os, hg.tape, hg.output, hg.size, hg.block⟩
  obtain ⟨e1, e2, e3⟩ := hs ds (trodAll_length hA)
  refine ⟨_, rfl, ds, [], _, [], p ++ [], [], hW', ?_, ?_, ?_, bel.frame _, fun h => by cases h⟩
  ·rw [e1, hres]
   exact Go.ChangeShapes.trodAll_mk1 (shut_bool hbool _)
  ·rw [e2]
   rw [List.append_nil]
   exact yg3 hlaid bel hread hA
  ·rw [e3, hvars]
   exact rfl
end Vm
/- Rows that list package-level variables: a law out of the contract of its function and the plain law. -/
namespace Vm
open Go
open Go.RowKit (Below Below.trod shut_bool)
theorem wo8 {H : Type} {enc : TypeId × Value -> H} {C : Checked} {os : Os} {f : FuncId} {fn : Func} {s : ChangeSpec} {conds : List PathCond} {E : Env} {ps : List Ty} {tb : TypeId} {g : yn2 ps -> Option (yo5 [RM.imm .bool])} {laid : List (String × DataW Unit)}
  (own : ownKnob C.prog.godebug = none) (started : os.Started) (noInit : C.prog.inits.idxOf? f = none) (hfn : C.prog.funcs[f]? = some fn)
  (witness : ∃ (w : World) (tape : Tape) (i : Input), w.os = os /\ (w.forCall tape i).Shaped C.prog /\ i.vars = [] /\ Input.okWide C.prog (w.forCall tape i) .any w.heap.size f i /\
    ((s.pre enc C.prog fn conds false (w.forCall tape i).memory i.args /\ laidMetH C.prog laid (w.forCall tape i).memory) /\ sizedMet enc C.prog fn (OpenSpec.ofChange s) false (w.forCall tape i).memory i.args) /\ ({} : Assume).holds C.prog (lone (Frame.enter C.prog f i.args .normal) [] (w.forCall tape i)))
  (hE : EOk C.prog E) (hlaid : laidOutB C.prog = true) (hread : (fn.params.toList.all fun t => C.prog.readableRec t && decide (t < C.prog.types.size)) = true) (hps : v0n E fn.params.toList = some ps)
  (hres : fn.resultTypes = #[tb]) (hbool : C.prog.underlying tb = some .bool) (hvars : s.vars = [])
  (hs : ∀ ds : List (DataW H), ds.length = fn.params.toList.length -> (s.fn H (ds ++ [])).results = [.lit (.bool true)] /\ (s.fn H (ds ++ [])).args = ds /\ (s.fn H (ds ++ [])).vars = [])
  (hspec : Spec.holds C.prog f { ps := ps, rs := [.imm .bool], f := g }) (hlaw : ∀ x, WfL ps x -> g x = some true) :
  ReturnsInHanded {} C os f .any (fun w args => (s.pre enc C.prog fn conds false w args /\ laidMetH C.prog laid w) /\ sizedMet enc C.prog fn (OpenSpec.ofChange s) false w args) (s.post enc C.prog fn false true false false) := by
 refine returnsInHanded_of_change_and (X := fun w _ => laidMetH C.prog laid w) (fun _ _ _ hh h => h.of_heap hh) own started noInit hfn witness ?_
 intro W base args ds gs before hval hW hcnd hsz _ _
 have hW' := hW
 obtain ⟨p, q, hA, hV, rfl, hfz, hnd⟩ := hW
 rw [hvars] at hV
 obtain ⟨rfl, rfl⟩ := Go.ChangeShapes.trodVars_none hV
 have hvt : s.plain.varTypes C.prog = [] := by
  have : s.plain.vars = s.vars := rfl
  unfold DataSpec.varTypes
  rw [this, hvars]
  rfl
 rw [hvt, List.append_nil, List.append_nil] at hsz
 rw [List.all_eq_true] at hsz
 obtain ⟨x, hx, hxw⟩ := w3u hE hps hA (fun j t v h1 h2 => ⟨_, _, hval j t v (by simpa using h1) (by simpa using h2)⟩) (fun m hm => by simpa using hsz m hm)
 refine (hspec W (All W) args x true (fun _ h => h) hx (hlaw x hxw)).mono fun e W' he => ?_
 cases e with
 | panicked _ => exact he.elim
 | outgrown => exact he.elim
 | returned v =>
  obtain ⟨hg, I', ys, bs, rfl, _, _, _, y, rfl, _, hy⟩ := he
  have hy1 : y = .bool true := by
   obtain ⟨h1, h2⟩ := hy
   simp only [Ty.agg, Bool.false_eq_true, if_false] at h2
   rw [z34 h2] at h1
   simpa [Rd] using h1
  subst hy1
  have bel : Below W.heap.size W W' := ⟨hg.os, hg.tape, hg.output, hg.size, hg.block⟩
  obtain ⟨e1, e2, e3⟩ := hs ds (trodAll_length hA)
  refine ⟨_, rfl, ds, [], _, [], p ++ [], [], hW', ?_, ?_, ?_, bel.frame _, fun h => by cases h⟩
  ·rw [e1, hres]
   exact Go.ChangeShapes.trodAll_mk1 (shut_bool hbool _)
  ·rw [e2]
   rw [List.append_nil]
   exact yg3 hlaid bel hread hA
  ·rw [e3, hvars]
   exact rfl
end Vm
/- Rows in the second form: the law is asked only where what is read is small. -/
namespace Vm
open Go
open Go.RowKit (Below Below.trod shut_bool)
def v3c : (t : Ty) -> t.den -> Nat
 | .slice _, xs => xs.length
 | _, _ => 0
def Small (B : Nat) : (ps : List Ty) -> yn2 ps -> Prop
 | [], _ => True
 | [t], x => v3c t x <= B
 | t :: t' :: r, x => v3c t x.1 <= B /\ Small B (t' :: r) x.2
section
variable {P : Program} {E : Env} {w : World} {H : Type} {enc : TypeId × Value -> H}
end
end Vm
/- Plain facts that many plain laws lean on. -/
namespace Vm
open Go
theorem w64 (n : Int) (h1 : -9223372036854775808 <= n) (h2 : n <= 9223372036854775807) : IntKind.i64.wrap n = n := Go.IntWalk.i64_in n ⟨h1, h2⟩
theorem wo3 : 2 ^ 200 <= fuel := by unfold fuel; decide
theorem z82 {n : Nat} (h : n <= 2 ^ 200) : n <= fuel := Nat.le_trans h wo3
abbrev zs (l : List Nat) : List Int := l.map Int.ofNat
theorem z6x (l : List Nat) (i : Nat) : (zs l).getD i 0 = ((l.getD i 0 : Nat) : Int) := by
 simp only [List.getD_eq_getElem?_getD, List.getElem?_map]
 cases l[i]? <;> rfl
theorem zn7 (l : List Nat) (i n : Nat) : (zs l).set i (n : Int) = zs (l.set i n) := by
 rw [show ((n : Nat) : Int) = Int.ofNat n from rfl, <- List.map_set]
theorem z1g (l : List Nat) : (zs l).length = l.length := by simp
theorem wc7 : ∀ {l : List Int}, (∀ x, x ∈ l -> 0 <= x) -> ∃ k : List Nat, l = zs k
 | [], _ => ⟨[], rfl⟩
 | x :: l, h => by
  obtain ⟨k, rfl⟩ := wc7 fun y hy => h y (List.mem_cons_of_mem _ hy)
  have := h x (List.mem_cons_self ..)
  exact ⟨x.toNat :: k, by simp [Int.toNat_of_nonneg this]⟩
theorem z3d {α : Type} (l : List α) (i : Nat) (d : α) (h : i < l.length) : l.getD i d = l[i] := by
 rw [List.getD_eq_getElem?_getD, List.getElem?_eq_getElem h]; rfl
theorem w1k {α : Type} (l : List α) (i : Nat) (x d : α) (h : i < l.length) : (l.set i x).getD i d = x := by
 rw [List.getD_eq_getElem?_getD, List.getElem?_set_self h]; rfl
theorem z5d {α : Type} (l : List α) (i j : Nat) (x d : α) (h : i ≠ j) : (l.set i x).getD j d = l.getD j d := by
 rw [List.getD_eq_getElem?_getD, List.getElem?_set_ne h, <- List.getD_eq_getElem?_getD]
theorem v2f {α : Type} (l : List α) (i : Nat) (d : α) : l.set i (l.getD i d) = l := by
 by_cases h : i < l.length
 ·rw [z3d l i d h]; exact List.set_getElem_self h
 ·rw [List.set_eq_of_length_le (by omega)]
end Vm
/- Lists of counts. -/
namespace Vm
open Go
def vec (k : Nat) (f : Nat -> Nat) : List Nat := (List.range k).map f
theorem v0q (k : Nat) (f : Nat -> Nat) : (vec k f).length = k := by simp [vec]
theorem v2h (k : Nat) (f : Nat -> Nat) (c : Nat) (h : c < k) : (vec k f).getD c 0 = f c := by
 simp [vec, List.getD_eq_getElem?_getD, h]
def upd (f : Nat -> Nat) (c x : Nat) : Nat -> Nat := fun i => if i = c then x else f i
theorem v39 (k : Nat) (f : Nat -> Nat) (c x : Nat) : (vec k f).set c x = vec k (upd f c x) := by
 apply List.ext_getElem
 ·simp [vec]
 ·intro i h1 h2
  simp only [vec, List.length_set, List.length_map, List.length_range] at h1
  simp only [vec, List.getElem_set, List.getElem_map, List.getElem_range, upd]
  by_cases e : c = i
  ·subst e; simp
  ·have : i ≠ c := fun h => e h.symm
   simp [e, this]
theorem v28 {k : Nat} {f g : Nat -> Nat} (h : ∀ i, i < k -> f i = g i) : vec k f = vec k g := by
 apply List.map_congr_left
 intro i hi
 exact h i (List.mem_range.1 hi)
def sumTo : Nat -> (Nat -> Nat) -> Nat
 | 0, _ => 0
 | n + 1, f => sumTo n f + f n
theorem sumTo_congr {f g : Nat -> Nat} : ∀ {n : Nat}, (∀ i, i < n -> f i = g i) -> sumTo n f = sumTo n g
 | 0, _ => rfl
 | n + 1, h => by simp only [sumTo]; rw [sumTo_congr fun i hi => h i (by omega), h n (by omega)]
theorem v0o {f : Nat -> Nat} {a b : Nat} (h : a <= b) : sumTo a f <= sumTo b f := by
 induction h with
 | refl => exact Nat.le_refl _
 | step h ih => exact Nat.le_trans ih (Nat.le_add_right _ _)
theorem w7g (k : Nat) (f : Nat -> Nat) : vec (k + 1) f = vec k f ++ [f k] := by simp [vec, List.range_succ]
theorem v0i (f : Nat -> Nat) : ∀ k, (vec k f).sum = sumTo k f
 | 0 => rfl
 | k + 1 => by rw [w7g, List.sum_append, v0i f k]; simp [sumTo]
theorem w2q (f : Nat -> Nat) (c : Nat) (hf : 0 < f c) : ∀ k, c < k -> sumTo k f = sumTo k (upd f c (f c - 1)) + 1
 | 0, h => by omega
 | k + 1, h => by
  simp only [sumTo]
  by_cases e : c = k
  ·subst e
   have h1 : sumTo c f = sumTo c (upd f c (f c - 1)) := sumTo_congr fun i hi => by simp [upd, show i ≠ c by omega]
   simp only [upd, if_true] at h1 ⊢
   rw [<- h1]; omega
  ·have ih := w2q f c hf k (by omega)
   have h3 : upd f c (f c - 1) k = f k := by simp [upd, show k ≠ c by omega]
   rw [ih, h3]; omega
def cnt (ks : List Nat) : Nat -> Nat := fun c => ks.count c
theorem wm3 (c : Nat) (ks : List Nat) : cnt ks = upd (cnt (c :: ks)) c (cnt (c :: ks) c - 1) := by
 funext i
 unfold upd cnt
 by_cases e : i = c
 ·subst e; simp
 ·have : c ≠ i := fun h => e h.symm
  simp [e, this]
theorem wm4 (c : Nat) (ks : List Nat) : 0 < cnt (c :: ks) c := by simp [cnt]
theorem v0d : ∀ (ks : List Nat) (k : Nat), (∀ c, c ∈ ks -> c < k) -> sumTo k (cnt ks) = ks.length
 | [], k, _ => by
  have : sumTo k (cnt []) = 0 := by
   induction k with
   | zero => rfl
   | succ k ih => simp only [sumTo]; rw [ih (by simp)]; simp [cnt]
  simpa using this
 | c :: ks, k, h => by
  rw [w2q (cnt (c :: ks)) c (wm4 c ks) k (h c (List.mem_cons_self ..)), <- wm3, v0d ks k fun d hd => h d (List.mem_cons_of_mem _ hd)]
  rfl
theorem ww1 (c : Nat) (ks : List Nat) (i : Nat) : cnt (c :: ks) i = cnt ks i + if i = c then 1 else 0 := by
 unfold cnt
 rw [List.count_cons]
 by_cases e : i = c
 ·subst e; simp
 ·have e' : c ≠ i := fun h => e h.symm
  simp [e, e']
theorem v33 (n : Nat) : List.replicate n (0 : Int) = zs (vec n fun _ => 0) := by
 induction n with
 | zero => rfl
 | succ n ih => rw [List.replicate_succ', ih, w7g, zs, zs, List.map_append]; rfl
theorem v3d {c : Nat} {ks : List Nat} : (c : Int) ∈ zs ks ↔ c ∈ ks := by
 simp only [zs, List.mem_map]
 constructor
 ·rintro ⟨d, h, e⟩
  have : d = c := Int.ofNat.inj e
  rwa [<- this]
 ·intro h; exact ⟨c, h, rfl⟩
theorem v3k {a b : List Nat} (h : zs a = zs b) : a = b := List.map_inj_right (fun _ _ h => Int.ofNat.inj h) |>.1 h
theorem w6a {α : Type} (L : List α) (x : α) (R : List α) (d : α) : (L ++ x :: R).getD L.length d = x := by
 rw [List.getD_eq_getElem?_getD, List.getElem?_append_right (Nat.le_refl _), Nat.sub_self]; rfl
theorem set_mid {α : Type} (L : List α) (x : α) (R : List α) (y : α) : (L ++ x :: R).set L.length y = L ++ y :: R := by
 rw [List.set_append_right _ _ (Nat.le_refl _), Nat.sub_self]; rfl
theorem y99 {α : Type} (l : List α) : l = [] \/ ∃ p a, l = p ++ [a] := by
 rcases List.eq_nil_or_concat l with rfl | ⟨p, a, rfl⟩
 ·exact .inl rfl
 ·exact .inr ⟨p, a, by simp⟩
end Vm
/- Natural numbers as digits in the base 10^9: plain mathematics. -/
namespace Vm
open Go
theorem w5g {n : Nat} (h : n < 18446744073709551616) : IntKind.u64.wrap (n : Int) = (n : Int) := Go.IntWalk.u64_in _ (by omega)
theorem ye3 {n : Nat} (h : n < 4294967296) : IntKind.u32.wrap (n : Int) = (n : Int) := Go.IntWalk.u32_in _ (by omega)
theorem v3m {n : Nat} (h : n < 9223372036854775808) : IntKind.i64.wrap (n : Int) = (n : Int) := Go.IntWalk.i64_in _ (by omega)
theorem u8n {n : Nat} (h : n < 256) : IntKind.u8.wrap (n : Int) = (n : Int) := Go.IntWalk.u8_in _ (by omega)
theorem w2r (n : Nat) : (n : Int).tdiv 1000000000 = ((n / 1000000000 : Nat) : Int) := rfl
theorem w2t (n : Nat) : (n : Int).tmod 1000000000 = ((n % 1000000000 : Nat) : Int) := rfl
theorem wr1 (n m : Nat) : (n : Int).tdiv (m : Int) = ((n / m : Nat) : Int) := rfl
theorem v0e (n m : Nat) : (n : Int).tmod (m : Int) = ((n % m : Nat) : Int) := rfl
theorem y3m (l : List Nat) (n : Nat) : zs l ++ [(n : Int)] = zs (l ++ [n]) := by rw [zs, zs, List.map_append]; rfl
theorem wv4 (n : Nat) : [(n : Int)] = zs [n] := rfl
theorem yn1 (l : List Nat) (n : Nat) : (zs l).take n = zs (l.take n) := by rw [zs, zs, List.map_take]
theorem w30 (n : Nat) : List.replicate n (0 : Int) = zs (List.replicate n 0) := by rw [zs, List.map_replicate]; rfl
theorem getD_take (l : List Nat) (n i : Nat) (h : i < n) : (l.take n).getD i 0 = l.getD i 0 := by
 simp only [List.getD_eq_getElem?_getD, List.getElem?_take]; rw [if_pos h]
def vl : List Nat -> Nat
 | [] => 0
 | d :: l => d + 1000000000 * vl l
def Dg (l : List Nat) : Prop := ∀ d, d ∈ l -> d < 1000000000
def cn (n : Nat) : List Nat := if n = 0 then [] else n % 1000000000 :: cn (n / 1000000000)
termination_by n
decreasing_by exact Nat.div_lt_self (by omega) (by decide)
theorem z53 : cn 0 = [] := by rw [cn]; rfl
theorem y4m {n : Nat} (h : n ≠ 0) : cn n = n % 1000000000 :: cn (n / 1000000000) := by rw [cn, if_neg h]
theorem y86 (n : Nat) : vl (cn n) = n := by
 induction n using Nat.strongRecOn with
 | ind n ih =>
  by_cases h : n = 0
  ·subst h; rw [z53]; rfl
  ·rw [y4m h, vl, ih _ (Nat.div_lt_self (by omega) (by decide))]
   omega
theorem y4o : Dg [] := fun d h => by cases h
theorem zq3 {d : Nat} {l : List Nat} : Dg (d :: l) ↔ d < 1000000000 /\ Dg l := by
 simp [Dg]
theorem zd8 {a b : List Nat} : Dg (a ++ b) ↔ Dg a /\ Dg b := by
 simp only [Dg, List.mem_append]
 exact ⟨fun h => ⟨fun d hd => h d (.inl hd), fun d hd => h d (.inr hd)⟩, fun h d hd => hd.elim (h.1 d) (h.2 d)⟩
theorem y2m (n : Nat) : Dg (cn n) := by
 induction n using Nat.strongRecOn with
 | ind n ih =>
  by_cases h : n = 0
  ·subst h; rw [z53]; exact y4o
  ·rw [y4m h, zq3]
   exact ⟨Nat.mod_lt _ (by decide), ih _ (Nat.div_lt_self (by omega) (by decide))⟩
theorem yh6 {l : List Nat} (h : Dg l) (n : Nat) : Dg (l.take n) := fun d hd => h d (List.mem_of_mem_take hd)
theorem w46 {l : List Nat} (h : Dg l) (n : Nat) : Dg (l.drop n) := fun d hd => h d (List.mem_of_mem_drop hd)
theorem yh5 {l : List Nat} (h : Dg l) {i x : Nat} (hx : x < 1000000000) : Dg (l.set i x) := fun d hd => by
 rcases List.mem_or_eq_of_mem_set hd with hd | rfl
 ·exact h d hd
 ·exact hx
theorem z54 {l : List Nat} (h : Dg l) (i : Nat) : l.getD i 0 < 1000000000 := by
 by_cases hi : i < l.length
 ·rw [z3d l i 0 hi]; exact h _ (List.getElem_mem hi)
 ·rw [List.getD_eq_getElem?_getD, List.getElem?_eq_none (by omega)]; decide
theorem w5w (n : Nat) : Dg (List.replicate n 0) := fun d hd => by
 have := List.eq_of_mem_replicate hd; omega
theorem z5s (n : Nat) : 1000000000 ^ (n + 1) = 1000000000 * 1000000000 ^ n := by rw [Nat.pow_succ, Nat.mul_comm]
theorem v2d (n : Nat) : 0 < 1000000000 ^ n := Nat.pow_pos (by decide)
theorem zf5 : ∀ (a b : List Nat), vl (a ++ b) = vl a + 1000000000 ^ a.length * vl b
 | [], b => by simp [vl]
 | d :: a, b => by
  rw [List.cons_append, vl, zf5 a b, vl, List.length_cons, z5s, Nat.mul_add, Nat.mul_assoc]; omega
theorem w2y : ∀ n, vl (List.replicate n 0) = 0
 | 0 => rfl
 | n + 1 => by rw [List.replicate_succ, vl, w2y n]
theorem ym4 : ∀ {l : List Nat}, Dg l -> vl l < 1000000000 ^ l.length
 | [], _ => by simp [vl]
 | d :: l, h => by
  have h := zq3.1 h
  have := ym4 h.2
  rw [vl, List.length_cons, z5s]
  omega
theorem zo5 (l : List Nat) (n : Nat) (h : n <= l.length) : vl l = vl (l.take n) + 1000000000 ^ n * vl (l.drop n) := by
 have := zf5 (l.take n) (l.drop n)
 rw [List.take_append_drop, List.length_take, Nat.min_eq_left h] at this
 exact this
theorem z75 (l : List Nat) (i : Nat) (h : i < l.length) : vl (l.drop i) = l.getD i 0 + 1000000000 * vl (l.drop (i + 1)) := by
 rw [List.drop_eq_getElem_cons h, vl, z3d l i 0 h]
theorem yb0 : ∀ (l : List Nat) (i x : Nat), i < l.length -> vl (l.set i x) + 1000000000 ^ i * l.getD i 0 = vl l + 1000000000 ^ i * x
 | [], i, x, h => by simp at h
 | d :: l, 0, x, h => by simp [vl]; omega
 | d :: l, i + 1, x, h => by
  have ih := yb0 l i x (by simpa using h)
  rw [List.set_cons_succ, vl, vl, List.getD_cons_succ, z5s, Nat.mul_assoc, Nat.mul_assoc]
  omega
theorem w40 : ∀ (l : List Nat) (d : Nat), Dg (l ++ [d]) -> d ≠ 0 -> cn (vl (l ++ [d])) = l ++ [d]
 | [], d, h, h0 => by
  have := (zq3.1 h).1
  simp only [List.nil_append, vl, Nat.mul_zero, Nat.add_zero]
  rw [y4m h0, Nat.mod_eq_of_lt this, Nat.div_eq_of_lt this, z53]
 | e :: l, d, h, h0 => by
  have h := zq3.1 (show Dg (e :: (l ++ [d])) from h)
  have ih := w40 l d h.2 h0
  rw [List.cons_append, vl]
  have hv : vl (l ++ [d]) ≠ 0 := fun e => by rw [e, z53] at ih; simp at ih
  rw [y4m (by omega), show (e + 1000000000 * vl (l ++ [d])) % 1000000000 = e by omega, show (e + 1000000000 * vl (l ++ [d])) / 1000000000 = vl (l ++ [d]) by omega, ih]
theorem v11 {l : List Nat} (h : Dg l) (h0 : ∀ p, l ≠ p ++ [0]) : cn (vl l) = l := by
 rcases y99 l with rfl | ⟨p, a, rfl⟩
 ·exact z53
 ·exact w40 p a h fun e => by subst e; exact h0 p rfl
theorem y3z (p : List Nat) : vl (p ++ [0]) = vl p := by rw [zf5]; simp [vl]
theorem v3b {a b : Nat} (h : cn a = cn b) : a = b := by rw [<- y86 a, h, y86]
theorem zd7 (n k : Nat) : (cn n).length <= k ↔ n < 1000000000 ^ k := by
 induction k generalizing n with
 | zero =>
  by_cases h : n = 0
  ·subst h; simp [z53]
  ·rw [y4m h]; simp; omega
 | succ k ih =>
  by_cases h : n = 0
  ·subst h; rw [z53]; simpa using v2d (k + 1)
  ·rw [y4m h, List.length_cons, Nat.add_le_add_iff_right, ih, z5s, Nat.mul_comm, Nat.div_lt_iff_lt_mul (by decide)]
theorem v10 {n : Nat} {p : List Nat} {d : Nat} (h : cn n = p ++ [d]) : d ≠ 0 := by
 rintro rfl
 have h1 : vl p = n := by rw [<- y3z, <- h, y86]
 have hd : Dg p := (zd8.1 (h ▸ y2m n)).1
 have h2 : (cn n).length <= p.length := (zd7 n _).2 (h1 ▸ ym4 hd)
 rw [h] at h2
 simp at h2
 omega
theorem zb8 {n : Nat} (h : n ≠ 0) : 0 < (cn n).length := by rw [y4m h]; simp
theorem v0z {n : Nat} (h : n ≠ 0) : 1000000000 ^ ((cn n).length - 1) <= n := by
 apply Nat.le_of_not_lt
 intro hl
 have := (zd7 n _).2 hl
 have := zb8 h
 omega
theorem wm1 (n : Nat) : n < 1000000000 ^ (cn n).length := (zd7 n _).1 (Nat.le_refl _)
theorem w17 {n : Nat} : cn n = [] ↔ n = 0 := ⟨fun h => by rw [<- y86 n, h]; rfl, fun h => by subst h; exact z53⟩
theorem w3z {n : Nat} : (cn n).length = 0 ↔ n = 0 := by rw [List.length_eq_zero_iff, w17]
theorem y84 {l : List Nat} {i : Nat} (h : Dg l) (hi : i < l.length) (h0 : l.getD i 0 ≠ 0) : l.take (i + 1) = cn (vl (l.take (i + 1))) := by
 refine (v11 (yh6 h _) fun p e => h0 ?_).symm
 have hl : (l.take (i + 1)).length = i + 1 := by rw [List.length_take]; omega
 have h1 : (l.take (i + 1)).getD i 0 = l.getD i 0 := by
  simp only [List.getD_eq_getElem?_getD, List.getElem?_take]; rw [if_pos (by omega)]
 rw [<- h1, e]
 rw [e] at hl
 simp at hl
 have := w6a p 0 [] (0 : Nat)
 rwa [hl] at this
theorem y83 {l : List Nat} {i : Nat} (hi : i < l.length) (h0 : l.getD i 0 = 0) : vl (l.take (i + 1)) = vl (l.take i) := by
 have : l.take (i + 1) = l.take i ++ [0] := by
  rw [List.take_succ_eq_append_getElem hi, <- z3d l i 0 hi, h0]
 rw [this, y3z]
theorem wv3 {a b : List Nat} (ha : Dg a) (_ : Dg b) {i : Nat} (h1 : i < a.length) (h2 : i < b.length) (hd : vl (a.drop (i + 1)) = vl (b.drop (i + 1))) (hl : a.getD i 0 < b.getD i 0) : vl a < vl b := by
 rw [zo5 a i (by omega), zo5 b i (by omega), z75 a i h1, z75 b i h2, hd]
 have := ym4 (yh6 ha i)
 rw [List.length_take, Nat.min_eq_left (by omega)] at this
 have h3 : 1000000000 ^ i * (a.getD i 0 + 1000000000 * vl (b.drop (i + 1))) + 1000000000 ^ i <= 1000000000 ^ i * (b.getD i 0 + 1000000000 * vl (b.drop (i + 1))) := by
  rw [<- Nat.mul_succ]
  exact Nat.mul_le_mul_left _ (by omega)
 omega
theorem wt3 {a b : Nat} (h : (cn a).length < (cn b).length) : a < b := by
 have h1 := wm1 a
 have hb : b ≠ 0 := fun e => by subst e; rw [z53] at h; simp at h
 have h2 := v0z hb
 have : 1000000000 ^ (cn a).length <= 1000000000 ^ ((cn b).length - 1) := Nat.pow_le_pow_right (by decide) (by omega)
 omega
theorem wa5 {l : List Nat} (h : Dg l) (hl : l.length <= (cn (vl l)).length) : cn (vl l) = l := by
 refine v11 h fun p e => ?_
 subst e
 rw [y3z] at hl
 have := (zd7 (vl p) p.length).2 (ym4 (zd8.1 h).1)
 simp at hl
 omega
theorem yh1 {a b : Nat} (h : a <= b) : (cn a).length <= (cn b).length := (zd7 a _).2 (Nat.lt_of_le_of_lt h (wm1 b))
end Vm
/- Texts as lists of bytes, and the decimal texts of numbers: plain mathematics. -/
namespace Vm
open Go
def sb (l : List Nat) : ByteArray := ⟨(l.map UInt8.ofNat).toArray⟩
def bt (s : ByteArray) : List Nat := s.data.toList.map UInt8.toNat
def By (l : List Nat) : Prop := ∀ c, c ∈ l -> c < 256
theorem v0x (s : ByteArray) : By (bt s) := fun c hc => by
 obtain ⟨d, _, rfl⟩ := List.mem_map.1 hc
 exact d.toNat_lt
theorem v1y (s : ByteArray) : sb (bt s) = s := by
 cases s with
 | mk a =>
  unfold sb bt
  congr 1
  apply Array.ext'
  simp [List.map_map, Function.comp_def, UInt8.ofNat_toNat]
theorem yw2 {l : List Nat} (h : By l) : bt (sb l) = l := by
 unfold sb bt
 simp only [List.map_map]
 refine (List.map_congr_left (g := id) fun c hc => ?_).trans (List.map_id l)
 exact UInt8.toNat_ofNat_of_lt (h c hc)
theorem z4d (l : List Nat) : (sb l).size = l.length := by simp [sb, ByteArray.size]
theorem w76 {l : List Nat} (h : By l) : ((sb l).data.toList.map fun c => (c.toNat : Int)) = zs l := by
 have := congrArg zs (yw2 h)
 rw [bt, zs, List.map_map] at this
 exact this
theorem wi8 {l : List Nat} (h : By l) (i : Nat) : ((sb l).data.getD i 0).toNat = l.getD i 0 := by
 have e : (sb l).data.getD i 0 = (l.map UInt8.ofNat).getD i 0 := by
  simp [sb, Array.getD_eq_getD_getElem?, List.getD_eq_getElem?_getD]
 rw [e]
 by_cases hi : i < l.length
 ·rw [z3d _ i 0 (by simpa using hi), z3d l i 0 hi, List.getElem_map]
  exact UInt8.toNat_ofNat_of_lt (h _ (List.getElem_mem hi))
 ·rw [List.getD_eq_getElem?_getD, List.getD_eq_getElem?_getD, List.getElem?_eq_none (by simpa using hi), List.getElem?_eq_none (by omega)]; rfl
theorem w2j (l : List Nat) : (sb l).toList = l.map UInt8.ofNat := by rw [ByteArray.toList_eq]; simp [sb]
theorem wg6 {l l' : List Nat} (h : By l) (h' : By l') (e : l.map UInt8.ofNat = l'.map UInt8.ofNat) : l = l' := by
 have := congrArg (List.map UInt8.toNat) e
 rw [List.map_map, List.map_map] at this
 have h1 : ∀ l : List Nat, By l -> List.map (UInt8.toNat ∘ UInt8.ofNat) l = l := fun l h => (List.map_congr_left (g := id) fun c hc => UInt8.toNat_ofNat_of_lt (h c hc)).trans (List.map_id l)
 rwa [h1 l h, h1 l' h'] at this
theorem w8v {l l' : List Nat} (h : By l) (h' : By l') : ((sb l).toList == (sb l').toList) = decide (l = l') := by
 rw [w2j, w2j, Bool.eq_iff_iff, beq_iff_eq, decide_eq_true_eq]
 exact ⟨wg6 h h', fun e => by rw [e]⟩
theorem zh8 (l : List Nat) (i j : Nat) : (sb l).extract i j = sb ((l.take j).drop i) := by
 have : (sb l).extract i j = ⟨(sb l).data.extract i j⟩ := by
  rw [<- ByteArray.data_extract]
 rw [this]
 unfold sb
 congr 1
 apply Array.ext'
 simp [List.map_drop, List.map_take, List.drop_take]
theorem y0f (a b : List Nat) : sb a ++ sb b = sb (a ++ b) := by
 have h : ∀ x : ByteArray, x = ⟨x.data.toList.toArray⟩ := fun x => by cases x; simp
 rw [h (sb a ++ sb b)]
 unfold sb
 congr 1
 simp [List.map_append]
theorem v36 (l : List Nat) : (⟨((zs l).map fun n => UInt8.ofNat n.toNat).toArray⟩ : ByteArray) = sb l := by
 unfold sb
 congr 2
 rw [zs, List.map_map]
 rfl
theorem y6x {a b : List Nat} : By (a ++ b) ↔ By a /\ By b := by
 simp only [By, List.mem_append]
 exact ⟨fun h => ⟨fun d hd => h d (.inl hd), fun d hd => h d (.inr hd)⟩, fun h d hd => hd.elim (h.1 d) (h.2 d)⟩
theorem v2k {l : List Nat} (h : By l) (n : Nat) : By (l.take n) := fun d hd => h d (List.mem_of_mem_take hd)
theorem v2j {l : List Nat} (h : By l) (n : Nat) : By (l.drop n) := fun d hd => h d (List.mem_of_mem_drop hd)
theorem wt9 : (⟨#[]⟩ : ByteArray) = sb [] := rfl
theorem w11 : By [] := fun _ h => by cases h
def dv (a : Nat) : List Nat -> Nat
 | [] => a
 | c :: l => dv (a * 10 + c) l
def Tn (l : List Nat) : Prop := ∀ c, c ∈ l -> c < 10
theorem zz5 : ∀ (a : Nat) (x y : List Nat), dv a (x ++ y) = dv (dv a x) y
 | _, [], _ => rfl
 | a, c :: x, y => by rw [List.cons_append, dv, dv, zz5]
theorem w1g : ∀ (a : Nat) (l : List Nat), dv a l = a * 10 ^ l.length + dv 0 l
 | a, [] => by simp [dv]
 | a, c :: l => by
  rw [dv, w1g (a * 10 + c) l, dv, w1g (0 * 10 + c) l, List.length_cons, Nat.pow_succ, Nat.zero_mul, Nat.zero_add, Nat.add_mul, Nat.mul_assoc, Nat.mul_comm 10]
  omega
theorem v1d : ∀ {l : List Nat}, Tn l -> dv 0 l < 10 ^ l.length
 | [], _ => by simp [dv]
 | c :: l, h => by
  rw [dv, w1g, List.length_cons, Nat.pow_succ, Nat.zero_mul, Nat.zero_add]
  have := v1d (l := l) fun d hd => h d (List.mem_cons_of_mem _ hd)
  have := Nat.mul_le_mul_right (10 ^ l.length) (show c + 1 <= 10 by have := h c (List.mem_cons_self ..); omega)
  rw [Nat.add_mul] at this
  omega
theorem wn0 (l : List Nat) (i : Nat) (_ : i <= l.length) : dv 0 l = dv 0 (l.take i) * 10 ^ (l.length - i) + dv 0 (l.drop i) := by
 have := zz5 0 (l.take i) (l.drop i)
 rw [List.take_append_drop] at this
 rw [this, w1g, List.length_drop]
theorem y3j {a b : List Nat} : Tn (a ++ b) ↔ Tn a /\ Tn b := by
 simp only [Tn, List.mem_append]
 exact ⟨fun h => ⟨fun d hd => h d (.inl hd), fun d hd => h d (.inr hd)⟩, fun h d hd => hd.elim (h.1 d) (h.2 d)⟩
def dec (n : Nat) : List Nat := if n = 0 then [] else dec (n / 10) ++ [n % 10]
termination_by n
decreasing_by exact Nat.div_lt_self (by omega) (by decide)
theorem zi3 : dec 0 = [] := by rw [dec]; rfl
theorem y2l {n : Nat} (h : n ≠ 0) : dec n = dec (n / 10) ++ [n % 10] := by rw [dec, if_neg h]
theorem wv1 (n : Nat) : Tn (dec n) := by
 induction n using Nat.strongRecOn with
 | ind n ih =>
  by_cases h : n = 0
  ·subst h; rw [zi3]; exact fun _ h => by cases h
  ·rw [y2l h, y3j]
   exact ⟨ih _ (Nat.div_lt_self (by omega) (by decide)), fun c hc => by rw [List.mem_singleton] at hc; omega⟩
theorem ws6 (n : Nat) : dv 0 (dec n) = n := by
 induction n using Nat.strongRecOn with
 | ind n ih =>
  by_cases h : n = 0
  ·subst h; rw [zi3]; rfl
  ·rw [y2l h, zz5, ih _ (Nat.div_lt_self (by omega) (by decide)), dv, dv]; omega
theorem w81 (n k : Nat) : (dec n).length <= k ↔ n < 10 ^ k := by
 induction k generalizing n with
 | zero =>
  by_cases h : n = 0
  ·subst h; simp [zi3]
  ·rw [y2l h]; simp; omega
 | succ k ih =>
  by_cases h : n = 0
  ·subst h; rw [zi3]; simpa using Nat.pow_pos (n := k + 1) (show 0 < 10 by decide)
  ·rw [y2l h, List.length_append, List.length_singleton, Nat.add_le_add_iff_right, ih, Nat.pow_succ, Nat.div_lt_iff_lt_mul (by decide)]
theorem w45 {n : Nat} (h : n ≠ 0) : 0 < (dec n).length := by rw [y2l h]; simp
theorem w5v {p : List Nat} {c : Nat} (h : c < 10) (hp : dec (dv 0 p) = p) (h0 : dv 0 p * 10 + c ≠ 0) : dec (dv 0 (p ++ [c])) = p ++ [c] := by
 rw [zz5, dv, dv, y2l h0, show (dv 0 p * 10 + c) / 10 = dv 0 p by omega, show (dv 0 p * 10 + c) % 10 = c by omega, hp]
theorem wb1 : ∀ (n : Nat) (l : List Nat), l.length = n -> Tn l -> l.head? ≠ some 0 -> dec (dv 0 l) = l
 | 0, l, hn, h, h0 => by
  obtain rfl := List.length_eq_zero_iff.1 hn
  exact zi3
 | n + 1, l, hn, h, h0 => by
  rcases y99 l with rfl | ⟨p, c, rfl⟩
  ·simp at hn
  ·have hc := (y3j.1 h).2 c (by simp)
   cases p with
   | nil =>
    have : c ≠ 0 := fun e => by subst e; simp at h0
    exact w5v (p := []) hc (by simp [dv, zi3]) (by simp [dv]; exact this)
   | cons a p =>
    have hp := wb1 n (a :: p) (by simpa using hn) (y3j.1 h).1 (by simpa using h0)
    refine w5v hc hp ?_
    have : dv 0 (a :: p) ≠ 0 := fun e => by rw [e, zi3] at hp; cases hp
    omega
theorem w61 : ∀ l : List Nat, dv 0 (l.dropWhile (· == 0)) = dv 0 l
 | [] => rfl
 | c :: l => by
  rw [List.dropWhile_cons]
  split
  ·rename_i h
   rw [w61 l]
   have : c = 0 := by simpa using h
   subst this
   rfl
  ·rfl
theorem v17 {l : List Nat} (h : Tn l) : l.dropWhile (· == 0) = dec (dv 0 l) := by
 have h1 : (l.dropWhile (· == 0)).head? ≠ some 0 := by
  have := List.head?_dropWhile_not (p := (· == 0)) (l := l)
  intro e
  rw [e] at this
  simp at this
 rw [<- w61 l]
 refine (wb1 _ _ rfl (fun c hc => h c ?_) h1).symm
 exact (List.dropWhile_sublist _).subset hc
def dig (n : Nat) : List Nat := if n = 0 then [0] else dec n
def dt (n : Nat) : List Nat := (dig n).map (48 + ·)
def txt (n : Nat) : ByteArray := sb (dt n)
theorem w7c (n : Nat) : Tn (dig n) := by
 unfold dig
 split
 ·intro c hc; rw [List.mem_singleton] at hc; omega
 ·exact wv1 n
theorem w9w {l : List Nat} (h : Tn l) : By (l.map (48 + ·)) := fun c hc => by
 obtain ⟨d, hd, rfl⟩ := List.mem_map.1 hc
 have := h d hd
 omega
theorem yg7 (n : Nat) : By (dt n) := w9w (w7c n)
theorem wb8 (n : Nat) : dv 0 (dig n) = n := by
 unfold dig
 split
 ·subst n; rfl
 ·exact ws6 n
theorem ww5 {a b : Nat} (h : dig a = dig b) : a = b := by rw [<- wb8 a, h, wb8]
theorem w1z {a b : List Nat} (h : a.map (48 + ·) = b.map (48 + ·)) : a = b := (List.map_inj_right fun x y (h : 48 + x = 48 + y) => by omega).1 h
theorem v19 {a b : Nat} (h : dt a = dt b) : a = b := ww5 (w1z h)
theorem y5c (a b : Nat) : ((txt a).toList == (txt b).toList) = decide (a = b) := by
 unfold txt
 rw [w8v (yg7 a) (yg7 b)]
 exact decide_eq_decide.2 ⟨v19, fun e => by rw [e]⟩
theorem w7e (n : Nat) : (txt n).size = (dig n).length := by rw [txt, z4d, dt, List.length_map]
theorem z68 (n : Nat) : 0 < (dig n).length := by
 unfold dig
 split
 ·decide
 ·exact w45 (by assumption)
theorem z4a (n k : Nat) (hk : 1 <= k) : (dig n).length <= k ↔ n < 10 ^ k := by
 unfold dig
 split
 ·subst n; simp; exact ⟨fun _ => Nat.pow_pos (by decide), fun _ => hk⟩
 ·exact w81 n k
theorem v2b {a b : Nat} (h : a <= b) : (dig a).length <= (dig b).length :=
 (z4a a _ (z68 b)).2 (Nat.lt_of_le_of_lt h ((z4a b _ (z68 b)).1 (Nat.le_refl _)))
theorem ws3 (n : Nat) : n < 10 ^ (dig n).length := (z4a n _ (z68 n)).1 (Nat.le_refl _)
theorem v2n (a b : Nat) : (dig (a * b)).length <= (dig a).length + (dig b).length := by
 rw [z4a _ _ (by have := z68 a; omega), Nat.pow_add]
 exact Nat.mul_lt_mul_of_lt_of_le (ws3 a) (Nat.le_of_lt (ws3 b)) (Nat.pow_pos (by decide))
theorem v2m {a b k : Nat} (ha : (dig a).length <= k) (hb : (dig b).length <= k) : (dig (a + b)).length <= k + 1 := by
 have hk : 1 <= k := Nat.le_trans (z68 a) ha
 rw [z4a _ _ hk] at ha hb
 rw [z4a _ _ (by omega), Nat.pow_succ]
 omega
theorem v14 {l : List Nat} (h : Tn l) (h0 : l = [0] \/ l ≠ [] /\ l.head? ≠ some 0) : l = dig (dv 0 l) := by
 rcases h0 with rfl | ⟨h1, h2⟩
 ·rfl
 ·have := wb1 _ l rfl h h2
  unfold dig
  split
  ·rename_i e
   rw [e, zi3] at this
   exact absurd this.symm h1
  ·exact this.symm
theorem w5x {n : Nat} (h : n ≠ 0) : (dig n).head? ≠ some 0 := by
 unfold dig
 rw [if_neg h]
 have h1 : Tn (dec n) := wv1 n
 have := v17 h1
 rw [ws6] at this
 intro e
 cases hd : dec n with
 | nil => rw [hd] at e; cases e
 | cons c l =>
  rw [hd] at e this
  simp only [List.head?_cons, Option.some.injEq] at e
  subst e
  have h2 := congrArg List.length this
  rw [List.dropWhile_cons_of_pos (by rfl)] at h2
  have h3 := (List.dropWhile_sublist (· == 0) (l := l)).length_le
  simp at h2
  omega
theorem wa4 {n k : Nat} (h : (dig n).length <= 9 * k) : (cn n).length <= k := by
 rw [zd7]
 by_cases h0 : k = 0
 ·have := z68 n; omega
 ·have := (z4a n (9 * k) (by omega)).1 h
  rwa [Nat.pow_mul] at this
def pd : Nat -> Nat -> List Nat
 | 0, _ => []
 | j + 1, d => pd j (d / 10) ++ [d % 10]
theorem y0d : ∀ j d, (pd j d).length = j
 | 0, _ => rfl
 | j + 1, d => by rw [pd, List.length_append, y0d]; rfl
theorem v25 : ∀ j d, Tn (pd j d)
 | 0, _ => fun _ h => by cases h
 | j + 1, d => by rw [pd, y3j]; exact ⟨v25 j _, fun c hc => by rw [List.mem_singleton] at hc; omega⟩
theorem v1e : ∀ j d, d < 10 ^ j -> dv 0 (pd j d) = d
 | 0, d, h => by simp at h; subst h; rfl
 | j + 1, d, h => by
  rw [pd, zz5, v1e j _ (by rw [Nat.pow_succ] at h; exact Nat.div_lt_of_lt_mul (by omega)), dv, dv]; omega
def bg (l : List Nat) : Nat -> List Nat
 | 0 => []
 | i + 1 => pd 9 (l.getD i 0) ++ bg l i
theorem yg6 (l : List Nat) : ∀ i, (bg l i).length = 9 * i
 | 0 => rfl
 | i + 1 => by rw [bg, List.length_append, y0d, yg6]; omega
theorem v0f (l : List Nat) : ∀ i, Tn (bg l i)
 | 0 => fun _ h => by cases h
 | i + 1 => by rw [bg, y3j]; exact ⟨v25 _ _, v0f l i⟩
theorem v1c {l : List Nat} (h : Dg l) : ∀ i, i <= l.length -> dv 0 (bg l i) = vl (l.take i)
 | 0, _ => rfl
 | i + 1, hi => by
  rw [bg, zz5, v1e 9 _ (z54 h i), w1g, v1c h i (by omega), yg6, Nat.pow_mul, List.take_succ_eq_append_getElem (by omega), zf5, List.length_take, Nat.min_eq_left (by omega), z3d l i 0 (by omega), Nat.mul_comm]
  simp only [vl, Nat.mul_zero, Nat.add_zero]
  rw [show (10 ^ 9 : Nat) = 1000000000 by decide]
  omega
end Vm
/- Rational numbers as sign, digits and digits of the denominator, and their texts: plain mathematics. -/
namespace Vm
open Go
def QR (r : Rat) (q : Bool × List Int × List Int) : Prop := q.1 = decide (r.num < 0) /\ q.2.1 = zs (cn r.num.natAbs) /\ (q.2.2 = zs (cn r.den) \/ r = 0 /\ q.2.2 = [])
def sgn (neg : Bool) (p : Nat) : Int := if neg then -(p : Int) else p
theorem yz1 (neg : Bool) (p : Nat) : (sgn neg p).natAbs = p := by cases neg <;> simp [sgn]
theorem wq5 (neg : Bool) : sgn neg 0 = 0 := by cases neg <;> rfl
theorem y96 (r : Rat) : sgn (decide (r.num < 0)) r.num.natAbs = r.num := by
 unfold sgn
 by_cases h : r.num < 0
 ·rw [if_pos (by simpa using h)]; omega
 ·rw [if_neg (by simpa using h)]; omega
theorem wj0 (a b : Bool) (p q : Nat) : sgn (a != b) (p * q) = sgn a p * sgn b q := by
 cases a <;> cases b <;> simp [sgn] <;> grind
theorem v1k (r : Rat) : mkRat (sgn (decide (r.num < 0)) r.num.natAbs) r.den = r := by rw [y96, Rat.mkRat_self]
theorem y8s (neg : Bool) {p d : Nat} (hp : p ≠ 0) (hd : d ≠ 0) : (mkRat (sgn neg p) d).num.natAbs = p / Nat.gcd p d /\ (mkRat (sgn neg p) d).den = d / Nat.gcd p d /\ decide ((mkRat (sgn neg p) d).num < 0) = neg := by
 rw [Rat.mkRat_def, dif_neg hd, Rat.normalize_eq]
 show (sgn neg p / (((sgn neg p).natAbs.gcd d : Nat) : Int)).natAbs = _ /\ d / (sgn neg p).natAbs.gcd d = _ /\ decide (sgn neg p / (((sgn neg p).natAbs.gcd d : Nat) : Int) < 0) = neg
 rw [yz1]
 have hg : 0 < Nat.gcd p d := Nat.gcd_pos_of_pos_left _ (Nat.pos_of_ne_zero hp)
 have hdv : (Nat.gcd p d) ∣ p := Nat.gcd_dvd_left p d
 obtain ⟨e, he⟩ := hdv
 have h2 : p / Nat.gcd p d = e := by
  rw [show p / Nat.gcd p d = (Nat.gcd p d * e) / Nat.gcd p d by rw [<- he]]
  exact Nat.mul_div_cancel_left _ hg
 have he0 : e ≠ 0 := fun h => by subst h; omega
 have h1 : sgn neg p / ((Nat.gcd p d : Nat) : Int) = sgn neg e := by
  have : sgn neg p = ((Nat.gcd p d : Nat) : Int) * sgn neg e := by
   cases neg
   ·simp only [sgn, Bool.false_eq_true, if_false]; rw [<- Int.natCast_mul, <- he]
   ·simp only [sgn, if_true]; rw [Int.mul_neg, <- Int.natCast_mul, <- he]
  rw [this, Int.mul_ediv_cancel_left _ (by omega)]
 refine ⟨?_, rfl, ?_⟩
 ·show (sgn neg p / ((Nat.gcd p d : Nat) : Int)).natAbs = _
  rw [h1, yz1, h2]
 ·show decide (sgn neg p / ((Nat.gcd p d : Nat) : Int) < 0) = neg
  rw [h1]
  cases neg
  ·simp [sgn]
  ·simp [sgn]; omega
theorem y3g : QR 0 (false, [], []) := ⟨rfl, by rw [show (0 : Rat).num.natAbs = 0 from rfl, z53]; rfl, .inr ⟨rfl, rfl⟩⟩
theorem v1u (neg : Bool) {p d : Nat} (hp : p ≠ 0) (hd : d ≠ 0) : QR (mkRat (sgn neg p) d) (neg, zs (cn (p / Nat.gcd p d)), zs (cn (d / Nat.gcd p d))) := by
 obtain ⟨h1, h2, h3⟩ := y8s neg hp hd
 exact ⟨h3.symm, by rw [h1], .inl (by rw [h2])⟩
theorem yk7 (d : Nat) : mkRat 0 d = 0 := Rat.zero_mkRat d
def Dr (k : Nat) (r : Rat) : Prop := r.num.natAbs < 10 ^ k /\ r.den < 10 ^ k
theorem p10 (k : Nat) : 0 < 10 ^ k := Nat.pow_pos (by decide)
theorem z7v {k l : Nat} (h : k <= l) {r : Rat} (hr : Dr k r) : Dr l r :=
 ⟨Nat.lt_of_lt_of_le hr.1 (Nat.pow_le_pow_right (by decide) h), Nat.lt_of_lt_of_le hr.2 (Nat.pow_le_pow_right (by decide) h)⟩
theorem wm2 {n k : Nat} (h : n < 10 ^ k) : (cn n).length <= k := by
 rw [zd7]
 exact Nat.lt_of_lt_of_le h (Nat.pow_le_pow_left (by decide) k)
theorem y1s {a b k l : Nat} (ha : a < 10 ^ k) (hb : b < 10 ^ l) : a * b < 10 ^ (k + l) := by
 rw [Nat.pow_add]
 exact Nat.mul_lt_mul'' ha hb
theorem wt5 {a b k : Nat} (ha : a < 10 ^ k) (hb : b < 10 ^ k) : a + b < 10 ^ (k + 1) := by
 rw [Nat.pow_succ]; omega
theorem ww7 {s : Int} {d k : Nat} (hd : d ≠ 0) (hs : s.natAbs < 10 ^ k) (hk : d < 10 ^ k) : Dr k (mkRat s d) := by
 by_cases h0 : s = 0
 ·subst h0
  rw [yk7]
  exact ⟨p10 k, by rw [show (0 : Rat).den = 1 from rfl]; omega⟩
 ·have hs' : s = sgn (decide (s < 0)) s.natAbs := by
   unfold sgn
   by_cases h : s < 0
   ·rw [if_pos (by simpa using h)]; omega
   ·rw [if_neg (by simpa using h)]; omega
  obtain ⟨h1, h2, _⟩ := y8s (decide (s < 0)) (p := s.natAbs) (d := d) (by omega) hd
  rw [hs']
  refine ⟨?_, ?_⟩
  ·rw [h1]; exact Nat.lt_of_le_of_lt (Nat.div_le_self _ _) hs
  ·rw [h2]; exact Nat.lt_of_le_of_lt (Nat.div_le_self _ _) hk
theorem y9y {k l : Nat} {r s : Rat} (hr : Dr k r) (hs : Dr l s) : Dr (k + l) (r * s) := by
 rw [Rat.mul_def']
 refine ww7 (Nat.mul_ne_zero r.den_nz s.den_nz) ?_ (y1s hr.2 hs.2)
 rw [Int.natAbs_mul]
 exact y1s hr.1 hs.1
theorem wb6 {k l : Nat} {r s : Rat} (hr : Dr k r) (hs : Dr l s) : Dr (k + l + 1) (r + s) := by
 rw [Rat.add_def']
 refine ww7 (Nat.mul_ne_zero r.den_nz s.den_nz) ?_ (Nat.lt_of_lt_of_le (y1s hr.2 hs.2) (Nat.pow_le_pow_right (by decide) (by omega)))
 refine Nat.lt_of_le_of_lt (Int.natAbs_add_le _ _) ?_
 rw [Int.natAbs_mul, Int.natAbs_mul, Int.natAbs_natCast, Int.natAbs_natCast]
 exact wt5 (y1s hr.1 hs.2) (by rw [Nat.add_comm k l]; exact y1s hs.1 hr.2)
theorem y74 {k : Nat} {r : Rat} (hr : Dr k r) : Dr k (-r) := ⟨by rw [Rat.neg_num, Int.natAbs_neg]; exact hr.1, by rw [Rat.neg_den]; exact hr.2⟩
theorem wb7 {k l : Nat} {r s : Rat} (hr : Dr k r) (hs : Dr l s) : Dr (k + l + 1) (r - s) := by
 rw [Rat.sub_eq_add_neg]; exact wb6 hr (y74 hs)
theorem ws5 {k : Nat} {r : Rat} (hr : Dr k r) (h0 : r ≠ 0) : Dr k r⁻¹ := by
 have hn : r.num ≠ 0 := fun e => h0 (Rat.num_eq_zero.1 e)
 refine ⟨?_, ?_⟩
 ·rw [Rat.num_inv, Int.natAbs_mul, Int.natAbs_natCast]
  have : r.num.sign.natAbs = 1 := by rw [Int.natAbs_sign, if_neg hn]
  rw [this, Nat.one_mul]
  exact hr.2
 ·rw [Rat.den_inv, if_neg hn]
  exact hr.1
theorem ws4 {k l : Nat} {r s : Rat} (hr : Dr k r) (hs : Dr l s) (h0 : s ≠ 0) : Dr (k + l) (r / s) := by
 rw [Rat.div_def]; exact y9y hr (ws5 hs h0)
theorem w1d {n k : Nat} (h : n < 10 ^ k) (hk : 1 <= k) : Dr k (n : Rat) := by
 refine ⟨by rw [show ((n : Nat) : Rat).num.natAbs = n from Int.natAbs_natCast n]; exact h, ?_⟩
 rw [show ((n : Nat) : Rat).den = 1 from rfl]
 exact Nat.one_lt_pow (by omega) (by decide)
theorem y5q {k : Nat} (h : 1 <= k) : Dr k 0 := w1d (n := 0) (p10 k) h
def rtb (r : Rat) : List Nat := (if r.num < 0 then [45] else []) ++ (dt r.num.natAbs ++ (if r.den = 1 then [] else 47 :: dt r.den))
def rt (r : Rat) : ByteArray := sb (rtb r)
theorem v1b {n c : Nat} (h : c ∈ dt n) : 48 <= c /\ c <= 57 := by
 obtain ⟨d, hd, rfl⟩ := List.mem_map.1 h
 have := w7c n d hd
 omega
theorem v1a (n : Nat) : dt n ≠ [] := fun e => by
 have := z68 n
 have h := congrArg List.length e
 rw [dt, List.length_map, List.length_nil] at h
 omega
theorem v0y (r : Rat) : By (rtb r) := by
 unfold rtb
 rw [y6x, y6x]
 refine ⟨?_, yg7 _, ?_⟩
 ·split
  ·intro c hc; rw [List.mem_singleton] at hc; omega
  ·exact w11
 ·split
  ·exact w11
  ·intro c hc
   rcases List.mem_cons.1 hc with rfl | hc
   ·decide
   ·exact yg7 _ c hc
theorem wi4 (n : Nat) : rt (n : Rat) = txt n := by
 unfold rt rtb txt
 have h1 : ((n : Nat) : Rat).num = (n : Int) := rfl
 have h2 : ((n : Nat) : Rat).den = 1 := rfl
 rw [h1, h2, if_neg (by omega), if_pos rfl]
 simp
end Vm
/- Contracts of functions of Go's library, out of the shelf's. -/
namespace Vm
open Go Go.Proofs Go.Shelf
open Go.RowKit (Below)
theorem y3k {w : World} {I : Nat -> Prop} {x : ByteArray} {v : Value} (h : ValRd w I .str x v) : v = .string x := by
 obtain ⟨h1, h2⟩ := h
 simp only [Ty.agg, Bool.false_eq_true, if_false] at h2
 rw [z34 h2] at h1
 simpa [Rd] using h1
theorem v0h {w : World} {I : Nat -> Prop} {k : IntKind} {x : Int} {v : Value} (h : ValRd w I (.int k) x v) : v = .int k x := by
 obtain ⟨h1, h2⟩ := h
 simp only [Ty.agg, Bool.false_eq_true, if_false] at h2
 rw [z34 h2] at h1
 simpa [Rd] using h1
theorem wk7 {w : World} {I : Nat -> Prop} {t : Ty} {x : List t.den} {v : Value} (h : ValRd w I (.slice t) x v) : ∃ A n c, v = .slice A n c /\ SlRd w I t.sz (Rd w I t) A n c x := by
 obtain ⟨h1, h2⟩ := h
 simp only [Ty.agg, Bool.false_eq_true, if_false] at h2
 rw [z34 h2] at h1
 obtain ⟨A, n, c, e, h⟩ := h1
 exact ⟨A, n, c, by simpa using e, h⟩
section
variable {P : Program} {ρ : Ren}
theorem y2k {f : FuncId} {vs : Array Value} {w : World} {I : Nat -> Prop} (hI : ∀ b, I b -> b < w.heap.size) {t : Ty} {x : t.den} {y : Value} (hd : ∀ w', ValRd w' I t x y) (h : Calls P f vs w fun e w' => e = .returned y /\ Below w.heap.size w w') :
  Calls P f vs w fun
   | .returned v, w' => Grow w w' /\ ∃ I' ys bs, v = packed ys /\ bs.Nodup /\ (∀ b, I b -> I' b) /\ (∀ b, I' b -> b < w'.heap.size /\ (I b \/ w.heap.size <= b)) /\ ResAll w w' I' [.imm t] x ys bs
   | _, _ => False := by
 refine h.mono fun e w' ⟨he, hw⟩ => ?_
 subst he
 exact ⟨⟨hw.os, hw.tape, hw.output, hw.size, hw.block⟩, I, [y], [], rfl, List.nodup_nil, fun _ h => h, fun b hb => ⟨Nat.lt_of_lt_of_le (hI b hb) hw.size, .inl hb⟩, y, rfl, rfl, hd w'⟩
theorem y85 {w : World} {I : Nat -> Prop} {k : IntKind} {n : Int} : ValRd w I (.int k) n (.int k n) := ⟨rfl, rfl⟩
theorem wk8 {w : World} {I : Nat -> Prop} {s : ByteArray} : ValRd w I .str s (.string s) := ⟨rfl, rfl⟩
def w2m (s : ByteArray) (c : Int) : Option Int := some (Lib.indexByte s.data.toList c.toNat.toUInt8)
def w8t : Spec := { ps := [.str, .int .u8], rs := [.imm (.int .i64)], f := fun x => w2m x.1 x.2 }
theorem we1 (L : Lays.n137 P ρ) : Spec.holds P (ρ.f 137) w8t := by
 intro w I vs x r hI ⟨v, _, hv, h1, v2, e2, h2⟩ hf
 obtain rfl := y3k h1
 obtain rfl := v0h h2
 cases hf
 rw [e2] at hv
 obtain rfl : vs = #[.string x.1, .int .u8 x.2] := by rw [<- Array.toArray_toList (xs := vs), hv]
 exact y2k hI (fun _ => y85) ((Any.strings_IndexByte L x.1 x.2 w).mono fun e w' ⟨he, hw⟩ => ⟨he, hw ▸ Below.refl _ _⟩)
theorem one_byte {s : ByteArray} (h : s.size = 1) : s = ⟨#[s[0]!]⟩ := by
 obtain ⟨⟨l⟩⟩ := s
 match l, h with
 | [c], _ => rfl
def wq9 (s t : ByteArray) : Option Int := if t.size = 1 then some ((Lib.countByte s.data.toList t[0]! : Nat) : Int) else none
def v1x : Spec := { ps := [.str, .str], rs := [.imm (.int .i64)], f := fun x => wq9 x.1 x.2 }
theorem ww4 (L : Lays.n138 P ρ) : Spec.holds P (ρ.f 138) v1x := by
 intro w I vs x r hI ⟨v, _, hv, h1, v2, e2, h2⟩ hf
 obtain rfl := y3k h1
 obtain rfl := y3k h2
 have hf : (if x.2.size = 1 then some ((Lib.countByte x.1.data.toList x.2[0]! : Nat) : Int) else none) = some r := hf
 split at hf
 ·rename_i h1
  cases hf
  rw [e2] at hv
  obtain rfl : vs = #[.string x.1, .string x.2] := by rw [<- Array.toArray_toList (xs := vs), hv]
  have c := Any.strings_Count_one L x.1 x.2[0]! w
  rw [<- one_byte h1] at c
  exact y2k hI (fun _ => y85) (c.mono fun e w' ⟨he, hw⟩ => ⟨he, hw ▸ Below.refl _ _⟩)
 ·cases hf
def stdIndex (s t : ByteArray) : Option Int := if t.size = 1 then some (Lib.indexByte s.data.toList t[0]!) else none
def sIndex : Spec := { ps := [.str, .str], rs := [.imm (.int .i64)], f := fun x => stdIndex x.1 x.2 }
theorem wy4 (L : Lays.n143 P ρ) : Spec.holds P (ρ.f 143) sIndex := by
 intro w I vs x r hI ⟨v, _, hv, h1, v2, e2, h2⟩ hf
 obtain rfl := y3k h1
 obtain rfl := y3k h2
 have hf : (if x.2.size = 1 then some (Lib.indexByte x.1.data.toList x.2[0]!) else none) = some r := hf
 split at hf
 ·rename_i h1
  cases hf
  rw [e2] at hv
  obtain rfl : vs = #[.string x.1, .string x.2] := by rw [<- Array.toArray_toList (xs := vs), hv]
  have c := Any.strings_Index_one L x.1 x.2[0]! w
  rw [<- one_byte h1] at c
  exact y2k hI (fun _ => y85) (c.mono fun e w' ⟨he, hw⟩ => ⟨he, hw ▸ Below.refl _ _⟩)
 ·cases hf
theorem index2_holds (L : Lays.n219 P ρ) : Spec.holds P (ρ.f 219) sIndex := by
 intro w I vs x r hI ⟨v, _, hv, h1, v2, e2, h2⟩ hf
 obtain rfl := y3k h1
 obtain rfl := y3k h2
 have hf : (if x.2.size = 1 then some (Lib.indexByte x.1.data.toList x.2[0]!) else none) = some r := hf
 split at hf
 ·rename_i h1
  cases hf
  rw [e2] at hv
  obtain rfl : vs = #[.string x.1, .string x.2] := by rw [<- Array.toArray_toList (xs := vs), hv]
  have c := Any.stringslite_Index_one L x.1 x.2[0]! w
  rw [<- one_byte h1] at c
  exact y2k hI (fun _ => y85) (c.mono fun e w' ⟨he, hw⟩ => ⟨he, hw ▸ Below.refl _ _⟩)
 ·cases hf
def v0b (l : List ByteArray) (t : ByteArray) : Option ByteArray := if l.length <= 140737488355328 /\ (Lib.join (l.map (·.data.toList)) t.data.toList).length <= 140737488355328 then some ⟨(Lib.join (l.map (·.data.toList)) t.data.toList).toArray⟩ else none
def v35 : Spec := { ps := [.slice .str, .str], rs := [.imm .str], f := fun x => v0b x.1 x.2 }
theorem v0l (L : Lays.n156 P ρ) (X : Builder.Extra P ρ) : Spec.holds P (ρ.f 156) v35 := by
 intro w I vs x r hI ⟨v, _, hv, h1, v2, e2, h2⟩ hf
 obtain ⟨A, n, c, rfl, hs⟩ := wk7 h1
 obtain rfl := y3k h2
 obtain ⟨xs, sep⟩ := x
 have hf : (if xs.length <= 140737488355328 /\ (Lib.join (xs.map (·.data.toList)) sep.data.toList).length <= 140737488355328 then some (⟨(Lib.join (xs.map (·.data.toList)) sep.data.toList).toArray⟩ : ByteArray) else none) = some r := hf
 rw [e2] at hv
 obtain rfl : vs = #[.slice A n c, .string sep] := by rw [<- Array.toArray_toList (xs := vs), hv]
 split at hf
 ·rename_i hb
  cases hf
  have none : xs = [] -> n = 0 -> Calls P (ρ.f 156) #[.slice A n c, .string sep] w fun e w' => e = .returned (.string ⟨(Lib.join (xs.map (·.data.toList)) sep.data.toList).toArray⟩) /\ Below w.heap.size w w' := by
   rintro rfl rfl
   exact (Any.strings_Join_none L X A c sep w).mono fun e w' ⟨he, hw⟩ => ⟨he, hw ▸ Below.refl _ _⟩
  obtain ⟨hn, hs⟩ := hs
  have hn : n = xs.length := hn
  refine y2k hI (fun _ => wk8) ?_
  cases A with
  | none =>
   have h0 : xs = [] := hs.1
   exact none h0 (by rw [hn, h0]; rfl)
  | some a =>
   obtain ⟨hnc, hs⟩ := hs
   rcases hs with h0 | ⟨hsp, hIb, C, E, fz, hh, hsz, hr⟩
   ·have : n = 0 := by omega
    exact none (List.length_eq_zero_iff.1 (by omega)) this
   ·obtain ⟨bk, o, sp⟩ := a
    simp only at hsp hIb hh hsz hr
    subst hsp
    subst hn
    refine Any.strings_Join L X bk o c xs sep w (fun j y hy => ?_) (hI bk hIb) hb.1 hnc hb.2
    have hy2 : ((C.toList.drop (o + j * 1)).take 1) = [.string y] := hr j y hy
    rw [Nat.mul_one] at hy2
    have h0 : ((C.toList.drop (o + j)).take 1)[0]? = some (.string y) := by rw [hy2]; rfl
    simp only [World.cell?, hh]
    simpa using h0
 ·cases hf
end
end Vm
