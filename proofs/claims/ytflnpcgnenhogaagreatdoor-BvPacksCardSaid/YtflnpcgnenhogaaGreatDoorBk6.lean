/- Own lemmas, laid together. -/
import Derived.Test.YtflnpcgnenhogaaGreatDoorBk5
import Derived.Deep.Upon
import Derived.Lib.AppendZerosOnto
namespace Go.Proofs.YtflnpcgnenhogaaGreatDoor.ev
open Go Go.RowKit

section
variable {B : Nat} {P : Program} {σ : Sg} {h : H} {nx : Nat} {w : World}

theorem partsA_sound {g : Nat → Value} {a : Act} : ∀ {xs : List (Nat × Operand)} {vs : List (Nat × Value)}, (∀ x ∈ xs, VO σ g a x.2) → partsA g xs = some vs →
  vs.length = (xs.map fun x => (x.1, a.eval x.2)).length ∧ ∀ (i : Nat) (p p' : Nat × Value), vs[i]? = some p → (xs.map fun x => (x.1, a.eval x.2))[i]? = some p' → p.1 = p'.1 ∧ VR σ p.2 p'.2
 | [], vs, _, h => by simp only [partsA, Option.some.injEq] at h; subst h; exact ⟨rfl, fun i p p' h => by simp at h⟩
 | (n, x) :: xs, vs, hx, h => by
  simp only [partsA] at h
  cases h1 : opv g x with
  | none => rw [h1] at h; cases h
  | some v =>
   cases h2 : partsA g xs with
   | none => rw [h1, h2] at h; cases h
   | some vs' =>
    rw [h1, h2] at h; injection h with h; subst h
    obtain ⟨a1, a2⟩ := partsA_sound (fun y hy => hx y (by simp [hy])) h2
    refine ⟨by simpa using a1, fun i p p' g1 g2 => ?_⟩
    cases i with
    | zero => simp at g1 g2; subst g1; subst g2; exact ⟨rfl, hx (n, x) (by simp) v h1⟩
    | succ i => exact a2 i p p' (by simpa using g1) (by simpa using g2)

theorem placesA_eq : ∀ {fs : List Field} {pl : List (Nat × Nat)}, placesA P fs = some pl → fs.mapM (fun f => (P.info? f.type).map fun i => (f.offset, i.size)) = some pl
 | [], pl, h => by simp only [placesA, Option.some.injEq] at h; subst h; rfl
 | f :: fs, pl, h => by
  simp only [placesA, szOf] at h
  cases hi : P.info? f.type with
  | none => rw [hi] at h; cases h
  | some i =>
   cases hr : placesA P fs with
   | none => rw [hi, hr] at h; cases h
   | some r =>
    rw [hi, hr] at h; injection h with h; subst h
    simp [List.mapM_cons, hi, placesA_eq hr]

theorem buildA_sound {t : TypeId} {parts parts' : List (Nat × Value)} {v : Value} (hl : parts.length = parts'.length) (hp : ∀ (i : Nat) (p p' : Nat × Value), parts[i]? = some p → parts'[i]? = some p' → p.1 = p'.1 ∧ VR σ p.2 p'.2)
  (hs : buildA P t parts = some v) : ∃ u, (Instr.build t parts'.toArray).run P w = .ok u w ∧ VR σ v u := by
 unfold buildA at hs
 split at hs
 ·rename_i z fs hz hu
  cases hf : flatN 6 z with
  | false => rw [hf] at hs; cases hs
  | true =>
   rw [hf] at hs
   simp only [cond_true] at hs
   split at hs
   ·rename_i pl hpl
    split at hs
    ·rename_i l hfi
     injection hs with hs; subst hs
     obtain ⟨l', g1, g2⟩ := fillA_sound (σ := σ) (pl' := fun i => pl[i]?) (fun i x hx => hx) (cs' := z.cells) (by rw [vcells_eq]; exact (VR.same 6 _ hf).cells) hl hp hfi
     unfold zeroOf at hz
     cases hi : P.info? t with
     | none => rw [hi] at hz; cases hz
     | some it =>
      rw [hi] at hz
      simp only at hz
      refine ⟨.agg l', run_build w t _ l' ?_, ?_⟩
      ·unfold Program.built
       simp [hi, hu, hz, placesA_eq hpl, g1]
      ·have := g2.agg
       simpa using this
    ·cases hs
   ·cases hs
 ·rename_i z n e hz hu
  cases hf : flatN 6 z with
  | false => rw [hf] at hs; cases hs
  | true =>
   rw [hf] at hs
   simp only [cond_true] at hs
   split at hs
   ·rename_i sz hsz
    split at hs
    ·rename_i l hfi
     injection hs with hs; subst hs
     obtain ⟨l', g1, g2⟩ := fillA_sound (σ := σ) (pl' := fun i => some (i * sz, sz)) (fun i x hx => hx) (cs' := z.cells) (by rw [vcells_eq]; exact (VR.same 6 _ hf).cells) hl hp hfi
     unfold zeroOf at hz
     cases hi : P.info? t with
     | none => rw [hi] at hz; cases hz
     | some it =>
      rw [hi] at hz
      simp only at hz
      unfold szOf at hsz
      cases hie : P.info? e with
      | none => rw [hie] at hsz; cases hsz
      | some ie =>
       rw [hie] at hsz
       injection hsz with hsz
       subst hsz
       refine ⟨.agg l', run_build w t _ l' ?_, ?_⟩
       ·unfold Program.built
        simp [hi, hu, hz, hie, g1]
       ·have := g2.agg
        simpa using this
    ·cases hs
   ·cases hs
 ·cases hs

theorem optV_sound {g : Nat → Value} {a : Act} {x : Option Operand} {v : Option Value} (hx : ∀ y, x = some y → VO σ g a y) (h : optV g x = some v) : OV σ v (x.map a.eval) := by
 cases x with
 | none => simp only [optV, Option.some.injEq] at h; subst h; exact ⟨rfl, fun v u h => by cases h⟩
 | some y =>
  simp only [optV] at h
  split at h
  ·rename_i u hu
   injection h with h; subst h
   exact ⟨rfl, fun v' u' h1 h2 => by injection h1 with h1; subst h1; injection h2 with h2; subst h2; exact hx y rfl _ hu⟩
  ·cases h

theorem methodA_inv {t : TypeId} {name : String} {g : FuncId} (h : methodA P t name = some g) :
  ∃ i m pr, P.info? t = some i ∧ i.methods.find? (·.name == name) = some m ∧ m.path.toList = [] ∧ m.func = some (g, pr) ∧ ∃ d, P.underlying t = some d ∧ ((∃ e, d = .pointer e ∧ pr = true) ∨ ((∀ e, d ≠ .pointer e) ∧ pr = false)) := by
 unfold methodA at h
 split at h
 ·rename_i i hi
  split at h
  ·rename_i m hm
   split at h
   ·rename_i g' pr hp hf
    split at h
    ·rename_i e hu
     injection h with h; subst h
     exact ⟨i, m, true, hi, hm, hp, hf, _, hu, .inl ⟨e, rfl, rfl⟩⟩
    ·cases h
    ·rename_i d hne hu
     injection h with h; subst h
     exact ⟨i, m, false, hi, hm, hp, hf, d, hu, .inr ⟨fun e he => by subst he; exact hne e rfl, rfl⟩⟩
    ·cases h
   ·cases h
  ·cases h
 ·cases h
theorem method_run {t : TypeId} {name : String} {g : FuncId} (h : methodA P t name = some g) (n : Nat) (v : Value) : (method (n + 1) t v name).run P w = .ok (g, v) w := by
 obtain ⟨i, m, pr, h1, h2, h3, h4, d, h5, h6⟩ := methodA_inv h
 have h7 : m.path = #[] := by simpa using h3
 rcases h6 with ⟨e, rfl, rfl⟩ | ⟨hne, rfl⟩
 ·simp [method, typeInfo, h1, h2, h7, follow, h4, receiverAt, run_underlying h5, Place.get]
 ·cases d <;> first
   | (simp [method, typeInfo, h1, h2, h7, follow, h4, receiverAt, run_underlying h5, Place.get]; done)
   | (exact absurd rfl (hne _))
theorem nilAhead_run {t : TypeId} {name : String} {g : FuncId} (h : methodA P t name = some g) (n : Nat) (v : Value) : (nilAhead (n + 1) t v name).run P w = .ok (some false) w := by
 obtain ⟨i, m, pr, h1, h2, h3, h4, d, h5, h6⟩ := methodA_inv h
 have h7 : m.path = #[] := by simpa using h3
 rcases h6 with ⟨e, rfl, rfl⟩ | ⟨hne, rfl⟩
 ·simp [nilAhead, typeInfo, h1, h2, h7, followBlind, h4]
 ·cases d <;> first
   | (simp [nilAhead, typeInfo, h1, h2, h7, followBlind, h4, run_underlying h5]; done)
   | (exact absurd rfl (hne _))


theorem xq_sound (hr : HR B σ h.heap.get nx w) {o : Oper} {g : Nat → Value} {a : Act} {v : Value} (hg : ∀ x ∈ o.op.operands.toList, VO σ g a x) (hx : xq P o g h = some v) :
  ∃ u, (execOp a.eval o).run P w = .ok (.value u) w ∧ VR σ v u := by
 obtain ⟨dst, op, type, pos, after, guard⟩ := o
 unfold xq stX at hx
 simp only at hg hx
 split at hx <;> dsimp only at hx
 ·exact ⟨_, rfl, hg _ (by simp [Op.operands]) _ hx⟩
 ·exact ⟨_, rfl, hg _ (by simp [Op.operands]) _ hx⟩
 ·rename_i c x y
  split at hx
  ·rename_i t hc
   have h1 := (hg c (by simp [Op.operands]) _ hc).atom_inv rfl
   cases t with
   | true => exact ⟨a.eval x, by simp [execOp, h1, asBool], hg x (by simp [Op.operands]) _ hx⟩
   | false => exact ⟨a.eval y, by simp [execOp, h1, asBool], hg y (by simp [Op.operands]) _ hx⟩
  ·cases hx
 ·rename_i t parts
  split at hx
  ·rename_i l hl
   obtain ⟨p1, p2⟩ := partsA_sound (fun x hx => hg x.2 (by
    simp only [Op.operands]
    simp only [List.mem_map]
    exact ⟨x, hx, rfl⟩)) hl
   obtain ⟨u, c1, c2⟩ := buildA_sound (w := w) p1 p2 hx
   refine ⟨u, ?_, c2⟩
   have e : (parts.map fun x => (x.1, a.eval x.2)) = (parts.toList.map fun x => (x.1, a.eval x.2)).toArray := by
    apply Array.ext'; simp
   simp only [execOp]
   rw [show (parts.map fun (i, x) => (i, a.eval x)) = (parts.map fun x => (x.1, a.eval x.2)) from rfl, e]
   simp [c1]
  ·cases hx
 ·rename_i t x
  split at hx
  ·rename_i p hp
   obtain ⟨u, c1, c2⟩ := loadA_sound (P := P) hr hx (hg x (by simp [Op.operands]) _ hp)
   exact ⟨u, by simp [execOp, c1], c2⟩
  ·cases hx
 ·rename_i x
  have hgx := hg x (by simp [Op.operands])
  split at hx
  ·rename_i p hp
   injection hx with hx; subst hx
   have h1 := hgx _ hp
   obtain ⟨a', e1, e2⟩ := isNone_ptr h1 rfl
   obtain ⟨q, rfl⟩ := some_of e2
   exact ⟨_, by simp [execOp, e1], e1 ▸ h1⟩
  ·rename_i i c d hp
   injection hx with hx; subst hx
   have h1 := hgx _ hp
   obtain ⟨ds, ds', e1, _⟩ := h1.func_inv rfl
   exact ⟨_, by simp [execOp, e1], e1 ▸ h1⟩
  ·rename_i name c d hp
   split at hx
   ·rename_i t v0 rest hl
    split at hx
    ·rename_i i hm
     injection hx with hx; subst hx
     have h1 := hgx _ hp
     obtain ⟨ds, ds', e1, e2, e3⟩ := h1.func_inv rfl
     rw [hl] at e2
     obtain ⟨u0, us, e4, e5, e6⟩ := e2.cons_inv
     obtain ⟨y, rfl, _⟩ := e5.iface_inv
     have e7 : ds[0]? = some (.iface t y) := by rw [← Array.getElem?_toList, e4]; rfl
     refine ⟨.func (.method name) ds ds', ?_, by rw [← e1]; exact h1⟩
     have e8 : ∀ w : World, (nilAhead (P.types.size + Made.depth) t y name).run P w = .ok (some false) w := fun w => nilAhead_run hm (P.types.size + 99) y
     simp [execOp, e1, e7, e8]
    ·cases hx
   ·cases hx
  ·rename_i k c d hp
   injection hx with hx; subst hx
   have h1 := hgx _ hp
   obtain ⟨b, κ, _, e1⟩ := h1.yield_inv
   refine ⟨.func (.yield b) #[] #[], by simp [execOp, e1], ?_⟩
   rw [← e1]; exact h1
  ·rename_i t v0 hp
   injection hx with hx; subst hx
   have h1 := hgx _ hp
   obtain ⟨y, e1, _⟩ := h1.iface_inv
   exact ⟨_, by simp [execOp, e1], e1 ▸ h1⟩
  ·cases hx
 ·rename_i op t x y t2
  split at hx
  ·rename_i p q hp hq
   obtain ⟨u, c1, c2⟩ := binA_sound (w := w) (hg x (by simp [Op.operands]) _ hp) (hg y (by simp [Op.operands]) _ hq) hx
   refine ⟨u, ?_, c2⟩
   simp only [execOp]
   rw [Sem.run_bind, c1]; rfl
  ·cases hx
 ·rename_i op t x
  split at hx
  ·rename_i p hp
   cases hf : flatN 1 p with
   | false => rw [hf] at hx; cases hx
   | true =>
    rw [hf] at hx
    simp only [cond_true] at hx
    split at hx
    ·rename_i v' hv
     cases hf2 : flatN 1 v' with
     | false => rw [hf2] at hx; cases hx
     | true =>
      rw [hf2] at hx
      simp only [cond_true, Option.some.injEq] at hx
      subst hx
      have e := (hg x (by simp [Op.operands]) _ hp).flat 1 hf
      exact ⟨_, by simp [execOp, e, pureRun_run hv w], VR.same 1 _ hf2⟩
    ·cases hx
  ·cases hx
 ·rename_i s d x
  split at hx
  ·rename_i p hp
   obtain ⟨u, c1, c2⟩ := convertA_sound hr (hg x (by simp [Op.operands]) _ hp) hx
   exact ⟨u, by simp [execOp, c1], c2⟩
  ·cases hx
 ·rename_i fn first captured
  split at hx
  ·rename_i i c d hc hd
   injection hx with hx; subst hx
   have h1 := opvs_sound (fun x hx => hg x (by simp [Op.operands]; exact .inl (by simpa using hx))) hc
   have h2 := opvs_sound (fun x hx => hg x (by simp [Op.operands]; exact .inr (by simpa using hx))) hd
   refine ⟨.func (.func i) (first.map a.eval) (captured.map a.eval), by simp [execOp, Instr.makeFunc], ?_⟩
   have e1 : first.map a.eval = (first.toList.map a.eval).toArray := by apply Array.ext'; simp
   have e2 : captured.map a.eval = (captured.toList.map a.eval).toArray := by apply Array.ext'; simp
   rw [e1, e2]
   exact .func rfl (by simpa using h1.1) (fun j v u g1 g2 => h1.2 j v u (by simpa using g1) (by simpa using g2)) (by simpa using h2.1) (fun j v u g1 g2 => h2.2 j v u (by simpa using g1) (by simpa using g2))
  ·rename_i name c d hc hd
   injection hx with hx; subst hx
   have h1 := opvs_sound (fun x hx => hg x (by simp [Op.operands]; exact .inl (by simpa using hx))) hc
   have h2 := opvs_sound (fun x hx => hg x (by simp [Op.operands]; exact .inr (by simpa using hx))) hd
   refine ⟨.func (.method name) (first.map a.eval) (captured.map a.eval), by simp [execOp, Instr.makeFunc], ?_⟩
   have e1 : first.map a.eval = (first.toList.map a.eval).toArray := by apply Array.ext'; simp
   have e2 : captured.map a.eval = (captured.toList.map a.eval).toArray := by apply Array.ext'; simp
   rw [e1, e2]
   exact .func rfl (by simpa using h1.1) (fun j v u g1 g2 => h1.2 j v u (by simpa using g1) (by simpa using g2)) (by simpa using h2.1) (fun j v u g1 g2 => h2.2 j v u (by simpa using g1) (by simpa using g2))
  ·cases hx
 ·rename_i t x lo hi mx
  split at hx
  ·rename_i p l r m hp hl hr' hm
   have h1 := optV_sound (fun y hy => hg y (by subst hy; simp [Op.operands])) hl
   have h2 := optV_sound (fun y hy => hg y (by subst hy; simp [Op.operands])) hr'
   have h3 := optV_sound (fun y hy => hg y (by subst hy; simp [Op.operands])) hm
   obtain ⟨u, c1, c2⟩ := sliceA_sound hr (hg x (by simp [Op.operands]) _ hp) h1 h2 h3 hx
   exact ⟨u, by simp [execOp, c1], c2⟩
  ·cases hx
 ·rename_i t x i
  split at hx
  ·rename_i p hp
   obtain ⟨u, c1, c2⟩ := fieldAddrA_sound (w := w) (hg x (by simp [Op.operands]) _ hp) hx
   exact ⟨u, by simp [execOp, c1], c2⟩
  ·cases hx
 ·rename_i t x i
  split at hx
  ·rename_i p hp
   obtain ⟨u, c1, c2⟩ := fieldA_sound (w := w) (hg x (by simp [Op.operands]) _ hp) hx
   exact ⟨u, by simp [execOp, c1], c2⟩
  ·cases hx
 ·rename_i t x i
  split at hx
  ·rename_i p q hp hq
   obtain ⟨u, c1, c2⟩ := indexAddrA_sound (w := w) (hg x (by simp [Op.operands]) _ hp) (hg i (by simp [Op.operands]) _ hq) hx
   exact ⟨u, by simp [execOp, c1], c2⟩
  ·cases hx
 ·rename_i t x i
  split at hx
  ·rename_i p q hp hq
   obtain ⟨u, c1, c2⟩ := indexA_sound (w := w) (hg x (by simp [Op.operands]) _ hp) (hg i (by simp [Op.operands]) _ hq) hx
   exact ⟨u, by simp [execOp, c1], c2⟩
  ·cases hx
 ·rename_i t x i ok
  split at hx
  ·rename_i p q hp hq
   obtain ⟨u, c1, c2⟩ := lookupA_sound hr (hg x (by simp [Op.operands]) _ hp) (hg i (by simp [Op.operands]) _ hq) hx
   exact ⟨u, by simp [execOp, c1], c2⟩
  ·cases hx
 ·rename_i t x
  split at hx
  ·cases hx
  ·rename_i p d hne hp hu
   injection hx with hx; subst hx
   refine ⟨.iface t (a.eval x), ?_, .iface (hg x (by simp [Op.operands]) _ hp)⟩
   cases d <;> first
    | (simp [execOp, Instr.makeInterface, run_underlying hu]; done)
    | exact absurd rfl (hne _)
  ·cases hx
 ·rename_i x i
  split at hx
  ·rename_i vs hp
   obtain ⟨ds, e1, e2⟩ := (hg x (by simp [Op.operands]) _ hp).tuple_inv
   obtain ⟨u, c1, c2⟩ := e2.get (by rw [Array.getElem?_toList]; exact hx)
   rw [Array.getElem?_toList] at c1
   exact ⟨u, by simp [execOp, Instr.extract, e1, c1], c2⟩
  ·cases hx
 ·rename_i c
  have hall : ∀ {args : List Value}, opvs g c.args.toList = some args → LR σ args (c.args.map a.eval).toList := fun h => by
   rw [show (c.args.map a.eval).toList = c.args.toList.map a.eval by simp]
   exact opvs_sound (fun x hx => hg x (by simp [Op.operands, Call.operands]; exact .inr (by simpa using hx))) h
  obtain ⟨callee, args0, argTypes⟩ := c
  simp only at hx hall
  split at hx
  ·rename_i t x ht hv
   have h1 := hall hv
   obtain ⟨u, us, e1, e2, e3⟩ := h1.cons_inv
   have e4 := e3.nil_inv
   subst e4
   obtain ⟨r, c1, c2⟩ := lenA_sound (ty := type) hr e2 hx
   have e5 : args0.map a.eval = #[u] := by apply Array.ext'; rw [e1]
   have e6 : argTypes = #[t] := by apply Array.ext'; rw [ht]
   exact ⟨r, by simp [execOp, resolve, invoke, builtin, e5, e6, c1], c2⟩
  ·rename_i t ao n c' ht hv
   have h1 := hall hv
   obtain ⟨u, us, e1, e2, e3⟩ := h1.cons_inv
   have e4 := e3.nil_inv
   subst e4
   have e5 : args0.map a.eval = #[u] := by apply Array.ext'; rw [e1]
   have e6 : argTypes = #[t] := by apply Array.ext'; rw [ht]
   split at hx
   ·rename_i e hu
    injection hx with hx; subst hx
    have e7 := e2.atom_inv rfl
    subst e7
    exact ⟨.int .i64 c', by simp [execOp, resolve, invoke, builtin, e5, e6, Builtin.cap_, run_underlying hu, goInt], .atom rfl⟩
   ·rename_i e k off hu
    cases hb : Nat.ble n c' with
    | false => rw [hb] at hx; cases hx
    | true =>
     rw [hb] at hx
     simp only [cond_true, Option.some.injEq] at hx
     subst hx
     obtain ⟨b, κ, hσ, rfl⟩ := e2.slice_inv
     exact ⟨.int .i64 c', by simp [execOp, resolve, invoke, builtin, e5, e6, Builtin.cap_, run_underlying hu, goInt], .atom rfl⟩
   ·cases hx
  ·rename_i args hv
   cases hf : args.all (flatN 1) with
   | false => rw [hf] at hx; cases hx
   | true =>
    rw [hf] at hx
    simp only [cond_true] at hx
    split at hx
    ·rename_i v' hv'
     cases hf2 : flatN 1 v' with
     | false => rw [hf2] at hx; cases hx
     | true =>
      rw [hf2] at hx
      simp only [cond_true, Option.some.injEq] at hx
      subst hx
      have e1 := (hall hv).flat hf
      have e5 : args0.map a.eval = args.toArray := by apply Array.ext'; rw [e1]
      have e6 : argTypes.toList.toArray = argTypes := by simp
      rw [e6] at hv'
      exact ⟨_, by simp [execOp, resolve, invoke, builtin, e5, pureRun_run hv' w], VR.same 1 _ hf2⟩
    ·cases hx
  ·rename_i args hv
   cases hf : args.all (flatN 1) with
   | false => rw [hf] at hx; cases hx
   | true =>
    rw [hf] at hx
    simp only [cond_true] at hx
    split at hx
    ·rename_i v' hv'
     cases hf2 : flatN 1 v' with
     | false => rw [hf2] at hx; cases hx
     | true =>
      rw [hf2] at hx
      simp only [cond_true, Option.some.injEq] at hx
      subst hx
      have e1 := (hall hv).flat hf
      have e5 : args0.map a.eval = args.toArray := by apply Array.ext'; rw [e1]
      have e6 : argTypes.toList.toArray = argTypes := by simp
      rw [e6] at hv'
      exact ⟨_, by simp [execOp, resolve, invoke, builtin, e5, pureRun_run hv' w], VR.same 1 _ hf2⟩
    ·cases hx
  ·cases hx
 ·cases hx
end
end Go.Proofs.YtflnpcgnenhogaaGreatDoor.ev

namespace Go.Proofs.YtflnpcgnenhogaaGreatDoor.ev
open Go Go.RowKit

section
variable {B : Nat} {P : Program} {σ : Sg} {h : H} {nx : Nat} {w : World}

theorem row_of {cells us : List Value} (hl : LR σ cells us) {c : T Value} (hc : T.setMany .leaf 0 cells = some c) (κ : Nat) (e : TypeId) (d : Value) (lz : Option Nat) (hlz : ∀ sz, lz = some sz → us.length = κ * sz) :
  ORel σ κ (.row cells.length c d e lz true) (.cells us.toArray e) := by
 refine ⟨us.toArray, (0, 0), rfl, by have := hl.1; simp; omega, fun i hi => ?_, fun sz hs => by simpa using hlz sz hs, fun _ i _ => by simp, fun _ => by have := hl.1; simp; omega⟩
 have h1 := T.get_setMany cells .leaf c 0 hc i
 rw [if_pos ⟨Nat.zero_le _, by omega⟩, Nat.sub_zero] at h1
 have h2 : cells[i]? = some cells[i] := List.getElem?_eq_getElem hi
 obtain ⟨u, h3, h4⟩ := hl.get h2
 refine ⟨u, by simpa using h3, ?_⟩
 unfold cellAt
 rw [h1, h2]
 exact h4

theorem repeat_length (zs : List Value) : ∀ n, (repeatCells zs n).length = n * zs.length
 | 0 => by simp [repeatCells]
 | n + 1 => by simp [repeatCells, repeat_length zs n, Nat.succ_mul, Nat.add_comm]
theorem repeat_get (zs : List Value) : ∀ (n i : Nat), i < n * zs.length → (repeatCells zs n)[i]? = zs[i % zs.length]?
 | 0, i, h => by simp at h
 | n + 1, i, h => by
  simp only [repeatCells, List.getElem?_append]
  by_cases hi : i < zs.length
  ·rw [if_pos hi, Nat.mod_eq_of_lt hi]
  ·have e : i % zs.length = (i - zs.length) % zs.length := Nat.mod_eq_sub_mod (by omega)
   rw [if_neg hi, repeat_get zs n (i - zs.length) (by rw [Nat.succ_mul] at h; omega), e]
theorem made_eq (z : Array Value) (n : Nat) (hz : z.size ≠ 0 ∨ n = 0) : ((Array.range (n * z.size)).map (z[· % z.size]!)).toList = repeatCells z.toList n := by
  apply List.ext_getElem?
  intro i
  by_cases hi : i < n * z.size
  · rw [repeat_get _ _ _ (by simpa using hi)]
    have hzs : z.size ≠ 0 := by rcases hz with h | h
                                · exact h
                                · subst h; simp at hi
    have hm : i % z.size < z.size := Nat.mod_lt _ (by omega)
    simp [hi, hm]
  · rw [List.getElem?_eq_none (by simp; omega), List.getElem?_eq_none (by rw [repeat_length]; simp; omega)]

theorem rowOf_inv {e : TypeId} {cells : List Value} {r : AO} (h : rowOf e cells = some r) : ∃ c, T.setMany .leaf 0 cells = some c ∧ r = .row cells.length c undef e none true := by
 unfold rowOf at h
 split at h
 ·rename_i c hc
  injection h with h
  exact ⟨c, hc, h.symm⟩
 ·cases h

theorem LR.repeat {zs : List Value} (hz : LR σ zs zs) : ∀ n, LR σ (repeatCells zs n) (repeatCells zs n)
 | 0 => LR.nil
 | n + 1 => hz.append (LR.repeat hz n)

theorem xa_sound {o : Oper} {g : Nat → Value} {a : Act} {id : Nat} {v : Value} {r : AO} (hg : ∀ x ∈ o.op.operands.toList, VO σ g a x) (hx : xa P o g id = some (v, r)) :
  r.isDead = false ∧ ∃ (U : Nat → Value) (ob : Obj), (∀ w : World, (execOp a.eval o).run P w = .ok (.value (U w.heap.size)) (w.alloc ob)) ∧
   ∀ σ' b κ, σ.le σ' → σ' id = some (b, κ) → VR σ' v (U b) ∧ ORel σ' κ r ob := by
 obtain ⟨dst, op, type, pos, after, guard⟩ := o
 unfold xa stA at hx
 simp only at hg hx
 split at hx <;> dsimp only at hx
 ·rename_i e
  split at hx
  ·rename_i z hz
   cases hf : flatN 6 z with
   | false => rw [hf] at hx; cases hx
   | true =>
    rw [hf] at hx
    simp only [cond_true] at hx
    split at hx
    ·rename_i r' hr'
     simp only [Option.some.injEq, Prod.mk.injEq] at hx
     obtain ⟨rfl, rfl⟩ := hx
     obtain ⟨c, hc, rfl⟩ := rowOf_inv hr'
     refine ⟨rfl, fun b => .pointer (some ⟨b, 0, none⟩), .cells z.cells e, fun w => by simp [execOp, Instr.alloc, zeroOf_run hz, newVar, newRow], fun σ' b κ hs hid => ⟨.ptr hid, ?_⟩⟩
     have := row_of (σ := σ') ((VR.same (σ := σ') 6 _ hf).cells) hc κ e undef none (fun sz h => by cases h)
     rw [← vcells_eq] at this ⊢
     simpa using this
    ·cases hx
  ·cases hx
 ·rename_i e x
  split at hx
  ·rename_i p hp
   split at hx
   ·rename_i r' hr'
    simp only [Option.some.injEq, Prod.mk.injEq] at hx
    obtain ⟨rfl, rfl⟩ := hx
    obtain ⟨c, hc, rfl⟩ := rowOf_inv hr'
    have hv := hg x (by simp [Op.operands]) _ hp
    refine ⟨rfl, fun b => .pointer (some ⟨b, 0, none⟩), .cells (a.eval x).cells e, fun w => by simp [execOp, Instr.box, newVar, newRow], fun σ' b κ hs hid => ⟨.ptr hid, ?_⟩⟩
    have := row_of (σ := σ') ((hv.mono hs).cells) hc κ e undef none (fun sz h => by cases h)
    rw [← vcells_eq (a.eval x)] at this
    simpa using this
   ·cases hx
  ·cases hx
 ·simp only [Option.some.injEq, Prod.mk.injEq] at hx
  obtain ⟨rfl, rfl⟩ := hx
  exact ⟨rfl, fun b => .map (some b), .map #[] 0, fun w => by simp [execOp, Instr.makeMap], fun σ' b κ hs hid => ⟨.map hid, #[], rfl, rfl, fun i e e' h => by simp at h⟩⟩
 ·rename_i t l c
  split at hx
  ·rename_i p q hp hq
   split at hx
   ·rename_i n m r' hm
    simp only [Option.some.injEq, Prod.mk.injEq] at hx
    obtain ⟨rfl, rfl⟩ := hx
    have hpv := hg l (by simp [Op.operands]) _ hp
    have hqv := hg c (by simp [Op.operands]) _ hq
    unfold makeSliceA at hm
    split at hm
    ·rename_i e l0 c0 hu
     have e1 := hpv.atom_inv rfl
     have e2 := hqv.atom_inv rfl
     split at hm
     ·rename_i i hi
      split at hm
      ·rename_i z hz
       cases hb : Nat.ble l0 c0 && Nat.ble c0 16777216 && Nat.ble (c0 * i.bytes) 16777216 && Nat.beq i.size (vcells z).length && flatN 6 z with
       | false => rw [hb] at hm; cases hm
       | true =>
        rw [hb] at hm
        simp only [cond_true] at hm
        simp only [Bool.and_eq_true] at hb
        obtain ⟨⟨⟨⟨b1, b2⟩, b3⟩, b4⟩, b5⟩ := hb
        have b1 := ble_of b1
        have b2 := ble_of b2
        have b3 := ble_of b3
        have b4 := beq_of b4
        have hrun : ∀ w : World, (Instr.makeSlice t (a.eval l) (a.eval c)).run P w = .ok (.slice (some ⟨w.heap.size, 0, none⟩) l0 c0) (w.alloc (.cells (madeCells z.cells (c0 * i.size)) e)) := fun w => by
         rw [e1, e2]
         have b3' : (i.bytes : Int) * (c0 : Int) ≤ 281474976710656 := by
          have : ((c0 * i.bytes : Nat) : Int) ≤ 281474976710656 := by omega
          rwa [Int.natCast_mul, Int.mul_comm] at this
         have := run_make (P := P) w t e i z hu hi hz .i64 .i64 (l0 : Int) (c0 : Int) (by omega) (by omega) b3' (by omega)
         simpa using this
        have hzl : z.cells.size = i.size := by rw [b4, ← vcells_eq]; simp
        have hmade : (madeCells z.cells (c0 * i.size)).toList = repeatCells (vcells z) c0 := by
         rw [← hzl, ← vcells_eq]
         by_cases hc0 : c0 = 0
         ·subst hc0; simp [madeCells, repeatCells, Array.range]
         ·by_cases hz0 : z.cells.size = 0
          ·have : z.cells = #[] := by simpa using hz0
           rw [this]
           have hrep : ∀ n, repeatCells ([] : List Value) n = [] := fun n => by induction n with | zero => rfl | succ n ih => simp [repeatCells, ih]
           simp [madeCells, hrep, Array.range]
          ·exact made_eq z.cells c0 (.inl hz0)
        split at hm
        ·rename_i z0 hz0
         simp only [Option.some.injEq, Prod.mk.injEq] at hm
         obtain ⟨rfl, rfl, rfl⟩ := hm
         refine ⟨rfl, fun b => .slice (some ⟨b, 0, none⟩) l0 c0, .cells (madeCells z.cells (c0 * i.size)) e, fun w => by simp [execOp, hrun], fun σ' b κ hs hid => ⟨.slice hid, madeCells z.cells (c0 * i.size), (0, 0), rfl, ?_, fun j hj => ?_, (fun sz h => by cases h), fun _ j _ => by simp, fun _ => by have := congrArg List.length hmade; rw [repeat_length, hz0] at this; simp at this; omega⟩⟩
         ·have := congrArg List.length hmade
          rw [repeat_length, hz0] at this
          simp at this; omega
         ·have h0 := repeat_get (vcells z) c0 j (by rw [hz0]; simpa using hj)
          rw [← hmade, hz0, Array.getElem?_toList] at h0
          refine ⟨z0, by rw [h0]; simp [Nat.mod_one], ?_⟩
          have h5 := (VR.same (σ := σ') 6 _ b5).cells
          rw [hz0] at h5
          have h6 : cellAt (.leaf : T Value) z0 j = z0 := by unfold cellAt; rw [T.get_leaf]
          rw [h6]
          exact h5.head.1
        ·rename_i zs _ hzs
         split at hm
         ·rename_i tt htt
          simp only [Option.some.injEq, Prod.mk.injEq] at hm
          obtain ⟨rfl, rfl, rfl⟩ := hm
          refine ⟨rfl, fun b => .slice (some ⟨b, 0, none⟩) l0 c0, .cells (madeCells z.cells (c0 * i.size)) e, fun w => by simp [execOp, hrun], fun σ' b κ hs hid => ⟨.slice hid, ?_⟩⟩
          have h5 := (VR.same (σ := σ') 6 _ b5).cells
          have := row_of (LR.repeat h5 c0) htt κ e undef none (fun sz h => by cases h)
          rw [← hmade] at this
          rw [← hmade]
          simpa using this
         ·cases hm
      ·cases hm
     ·cases hm
    ·cases hm
   ·cases hx
  ·cases hx
 ·rename_i t n parts
  split at hx
  ·rename_i l hl
   split at hx
   ·rename_i r' hr'
    simp only [Option.some.injEq, Prod.mk.injEq] at hx
    obtain ⟨rfl, rfl⟩ := hx
    obtain ⟨p1, p2⟩ := partsA_sound (fun x hx => hg x.2 (by
     simp only [Op.operands]
     simp only [List.mem_map]
     exact ⟨x, hx, rfl⟩)) hl
    unfold buildSliceA at hr'
    split at hr'
    ·rename_i e hu
     split at hr'
     ·rename_i sz z hsz hz
      cases hb : Nat.ble (n * sz) 65536 && flatN 6 z && Nat.beq (vcells z).length sz with
      | false => rw [hb] at hr'; cases hr'
      | true =>
       rw [hb] at hr'
       simp only [cond_true] at hr'
       simp only [Bool.and_eq_true] at hb
       obtain ⟨⟨b1, b2⟩, b3⟩ := hb
       have b1 := ble_of b1
       have b3 := beq_of b3
       split at hr'
       ·rename_i l2 hfi
        split at hr'
        ·rename_i cc hcc
         injection hr' with hr'; subst hr'
         have hzl : z.cells.size = sz := by rw [← b3, ← vcells_eq]; simp
         have h5 := (VR.same (σ := σ) 6 _ b2).cells
         have hmk : ∀ zero : Array Value, (n * sz ≠ 0 → zero = z.cells) → (((Array.range (n * sz)).map (zero[· % zero.size]!)).toList = repeatCells (vcells z) n) := fun zero hzero => by
          by_cases h0 : n * sz = 0
          ·rw [h0]
           have hrl := repeat_length (vcells z) n
           rw [b3, h0] at hrl
           rw [List.eq_nil_of_length_eq_zero hrl]
           simp [Array.range]
          ·rw [hzero h0, ← hzl, ← vcells_eq]
           exact made_eq z.cells n (.inl (by rw [hzl]; intro hc; rw [hc] at h0; simp at h0))
         have key : ∃ cells' : Array Value, LR σ l2 cells'.toList ∧ ∀ w : World, (Instr.buildSlice t n (parts.map fun (i, x) => (i, a.eval x))).run P w = .ok (.slice (some ⟨w.heap.size, 0, none⟩) n n) (w.alloc (.cells cells' e)) := by
          have e0 : (parts.map fun (x : Nat × Operand) => (x.1, a.eval x.2)).toList = (parts.toList.map fun x => (x.1, a.eval x.2)) := by simp
          unfold szOf at hsz
          cases hie : P.info? e with
          | none => rw [hie] at hsz; cases hsz
          | some ie =>
           rw [hie] at hsz
           injection hsz with hsz
           have hz' : ie.zero = some z := by unfold zeroOf at hz; rw [hie] at hz; exact hz
           have hns : ¬ n * ie.size > 2 ^ 24 := by rw [hsz]; omega
           by_cases h0 : n * sz = 0
           ·obtain ⟨l', g1, g2⟩ := fillA_sound (σ := σ) (pl' := fun i => some (i * sz, sz)) (fun i x hx => hx) (cs' := (Array.range (n * sz)).map ((#[] : Array Value)[· % (#[] : Array Value).size]!)) (by
             rw [hmk #[] (fun h => absurd h0 h)]
             exact LR.repeat h5 n) p1 p2 hfi
            refine ⟨l', g2, fun w => ?_⟩
            rw [← e0] at g1
            rw [h0] at g1
            simp only [Array.toList_map] at g1
            have h0' : n * ie.size = 0 := by rw [hsz]; exact h0
            rw [← hsz] at g1
            have hr0 : ∀ f : Nat → Value, (Array.range 0).map f = #[] := fun f => by simp [Array.range]
            rw [hr0] at g1
            simp [Instr.buildSlice, run_underlying hu, sizeOf, typeInfo, hie, h0', hr0, g1, newRow]
           ·obtain ⟨l', g1, g2⟩ := fillA_sound (σ := σ) (pl' := fun i => some (i * sz, sz)) (fun i x hx => hx) (cs' := (Array.range (n * sz)).map (z.cells[· % z.cells.size]!)) (by
             rw [hmk z.cells (fun _ => rfl)]
             exact LR.repeat h5 n) p1 p2 hfi
            refine ⟨l', g2, fun w => ?_⟩
            rw [← e0] at g1
            rw [← hsz] at g1
            exact run_buildSlice w t e n _ l' ie z hu hie hz' hns (by rw [hsz]; exact h0) g1
         obtain ⟨cells', k1, k2⟩ := key
         refine ⟨rfl, fun b => .slice (some ⟨b, 0, none⟩) n n, .cells cells' e, fun w => by simp only [execOp]; rw [Sem.run_bind, k2]; rfl, fun σ' b κ hs hid => ⟨.slice hid, ?_⟩⟩
         have := row_of (k1.mono hs) hcc κ e undef none (fun sz h => by cases h)
         simpa using this
        ·cases hr'
       ·cases hr'
     ·cases hr'
    ·cases hr'
   ·cases hx
  ·cases hx
 ·cases hx
end
end Go.Proofs.YtflnpcgnenhogaaGreatDoor.ev

namespace Go.Proofs.YtflnpcgnenhogaaGreatDoor.ev
open Go Go.RowKit

section
variable {B : Nat} {P : Program} {σ : Sg} {h : H} {nx : Nat} {w : World}

theorem setCells_same (b : Nat) : ∀ (vs : List Value) (o : Nat) (w : World), (w.setCells b o vs).os = w.os ∧ (w.setCells b o vs).tape = w.tape ∧ (w.setCells b o vs).output = w.output ∧ (w.setCells b o vs).heap.size = w.heap.size ∧ ∀ x, x ≠ b → (w.setCells b o vs).heap[x]? = w.heap[x]?
 | [], o, w => ⟨rfl, rfl, rfl, rfl, fun _ _ => rfl⟩
 | v :: vs, o, w => by
  obtain ⟨a1, a2, a3, a4, a5⟩ := setCells_same b vs (o + 1) (w.setCell ⟨b, o, none⟩ v)
  refine ⟨a1.trans rfl, a2.trans rfl, a3.trans rfl, a4.trans (by simp), fun x hx => (a5 x hx).trans ?_⟩
  simp [World.setCell, Array.getElem?_modify, Ne.symm hx]

theorem setCells_row (b : Nat) : ∀ (vs : List Value) (o : Nat) (w : World) (c : Array Value) (e : TypeId) (fz : Nat × Nat), w.heap[b]? = some (.cells c e fz) →
  ∃ c' : Array Value, (w.setCells b o vs).heap[b]? = some (.cells c' e fz) ∧ c'.size = c.size ∧ (∀ i, (i < o ∨ o + vs.length ≤ i) → c'[i]? = c[i]?) ∧ (∀ j, j < vs.length → o + j < c.size → c'[o + j]? = vs[j]?)
 | [], o, w, c, e, fz, h => ⟨c, h, rfl, fun _ _ => rfl, fun j hj => by simp at hj⟩
 | v :: vs, o, w, c, e, fz, h => by
  have h1 : (w.setCell ⟨b, o, none⟩ v).heap[b]? = some (.cells (c.setIfInBounds o v) e fz) := by simp [World.setCell, Array.getElem?_modify, h]
  obtain ⟨c', a1, a2, a3, a4⟩ := setCells_row b vs (o + 1) _ _ e fz h1
  refine ⟨c', a1, by simpa using a2, fun i hi => ?_, fun j hj hjs => ?_⟩
  ·rw [a3 i (by simp only [List.length_cons] at hi; omega)]
   rw [Array.getElem?_setIfInBounds_ne (by simp only [List.length_cons] at hi; omega)]
  ·cases j with
   | zero =>
    rw [Nat.add_zero, a3 o (.inl (by omega))]
    simp [Array.getElem?_setIfInBounds]; omega
   | succ j =>
    have := a4 j (by simpa using hj) (by simp; omega)
    rw [show o + (j + 1) = o + 1 + j by omega, this]
    rfl

theorem all_one {vs us : List Value} (hl : LR σ vs us) (h1 : vs.all oneCell = true) : ∀ u ∈ us, u.oneCell' = true := by
 intro u hu
 obtain ⟨i, hi⟩ := List.getElem?_of_mem hu
 obtain ⟨hlt, _⟩ := List.getElem?_eq_some_iff.1 hi
 have h2 : vs[i]? = some (vs[i]'(by rw [hl.1]; exact hlt)) := List.getElem?_eq_getElem _
 exact (hl.2 i _ u h2 hi).one (List.all_eq_true.1 h1 _ (List.mem_of_getElem? h2))

theorem H.set_inv {h h' : H} {k : Nat} {o : AO} (hs : h.set k o = some h') : h'.next = h.next ∧ h'.heap.get k = some o ∧ ∀ j, j ≠ k → h'.heap.get j = h.heap.get j := by
 obtain ⟨t, n⟩ := h
 obtain ⟨t1, h1, h2⟩ := T.setK_inv (d := 60) o t k (fun t' => some (⟨t', n⟩ : H)) hs
 injection h2 with h2; subst h2
 exact ⟨rfl, by rw [h1]; simp, fun j hj => by rw [h1, if_neg hj]⟩
theorem H.new_inv {h h' : H} {k : Nat} {o : AO} (hs : h.new o = some (k, h')) : k = h.next ∧ h'.next = h.next + 1 ∧ h'.heap.get h.next = some o ∧ ∀ j, j ≠ h.next → h'.heap.get j = h.heap.get j := by
 obtain ⟨t, n⟩ := h
 obtain ⟨t1, h1, h2⟩ := T.setK_inv (d := 60) o t n (fun t' => some (n, (⟨t', Nat.succ n⟩ : H))) hs
 simp only [Option.some.injEq, Prod.mk.injEq] at h2
 obtain ⟨rfl, rfl⟩ := h2
 exact ⟨rfl, rfl, by rw [h1]; simp, fun j hj => by rw [h1, if_neg hj]⟩

theorem writeN_sound (hr : HR B σ h.heap.get h.next w) {k off : Nat} {vs us : List Value} {h' : H} (hw : writeN h k off vs = some h') {b κ : Nat} (hs : σ k = some (b, κ)) (hl : LR σ vs us) :
  (∀ j, j < us.length → (w.cell? ⟨b, off + j, none⟩).isSome = true) ∧ (∀ j, j < us.length → w.frozen? ⟨b, off + j, none⟩ = false) ∧ (∀ u ∈ us, u.oneCell' = true) ∧
   Step B σ h.heap.get h.next w σ h'.heap.get h'.next (w.setCells b off us) := by
 unfold writeN at hw
 split at hw
 ·rename_i m cells d e lz wr hk
  cases hb : wr && Nat.ble (off + vs.length) m && vs.all oneCell with
  | false => rw [hb] at hw; cases hw
  | true =>
   rw [hb] at hw
   simp only [cond_true] at hw
   simp only [Bool.and_eq_true] at hb
   obtain ⟨⟨b1, b2⟩, b3⟩ := hb
   have b2 := ble_of b2
   subst b1
   split at hw
   ·rename_i c hc
    obtain ⟨c0, fz, h1, h2, h3, h4, h5⟩ := hr.row hk hs
    obtain ⟨e1, e2, e3⟩ := H.set_inv hw
    have hln := hl.1
    refine ⟨fun j hj => ?_, fun j hj => ?_, all_one hl b3, ?_⟩
    ·have : off + j < c0.size := by omega
     simp [World.cell?, h1, this]
    ·have := h5 rfl (off + j) (by omega)
     simp only [World.frozen?, h1]
     exact this
    ·obtain ⟨s1, s2, s3, s4, s5⟩ := setCells_same b us off w
     obtain ⟨c', r1, r2, r3, r4⟩ := setCells_row b us off w c0 e fz h1
     rw [e1]
     refine hr.write (o' := .row m c d e lz true) hk rfl rfl hs s1 s2 s3 s4 r1 s5 ⟨c', fz, rfl, by omega, fun i hi => ?_, fun sz hsz => by rw [r2]; exact h4 sz hsz, fun hwr i hi => h5 hwr i (by omega), fun hlz => by rw [r2]; exact hr.rowX hk hs h1 hlz⟩ e2 e3
     have hg := T.get_setMany vs cells c off hc i
     by_cases hin : off ≤ i ∧ i < off + vs.length
     ·rw [if_pos hin] at hg
      have hlt : i - off < vs.length := by omega
      have hv : vs[i - off]? = some vs[i - off] := List.getElem?_eq_getElem hlt
      obtain ⟨u, g1, g2⟩ := hl.get hv
      refine ⟨u, ?_, ?_⟩
      ·have := r4 (i - off) (by omega) (by omega)
       rw [show off + (i - off) = i by omega] at this
       rw [this, g1]
      ·unfold cellAt
       rw [hg, hv]
       exact g2
     ·rw [if_neg hin] at hg
      obtain ⟨u, g1, g2⟩ := h3 i hi
      refine ⟨u, by rw [r3 i (by omega)]; exact g1, ?_⟩
      unfold cellAt at g2 ⊢
      rw [hg]
      exact g2
   ·cases hw
 ·cases hw

theorem storeA_sound (hr : HR B σ h.heap.get h.next w) {t : TypeId} {p v p' v' : Value} (hp : VR σ p p') (hv : VR σ v v') {h' : H} (hs : storeA P h t p v = some h') :
  ∃ w', (Instr.storeAt t p' v').run P w = .ok () w' ∧ Step B σ h.heap.get h.next w σ h'.heap.get h'.next w' := by
 unfold storeA at hs
 split at hs
 ·rename_i k off
  split at hs
  ·rename_i n hn
   cases hb : Nat.beq n (vcells v).length with
   | false => rw [hb] at hs; cases hs
   | true =>
    rw [hb] at hs
    simp only [cond_true] at hs
    have hb := beq_of hb
    obtain ⟨b, κ, hσ, rfl⟩ := hp.ptr_inv
    obtain ⟨g1, g2, g3, g4⟩ := writeN_sound hr hs hσ hv.cells
    refine ⟨_, ?_, g4⟩
    have hst := run_storeCells_cells (P := P) b off (vcells v') 0 w (by simpa using g1) (by simpa using g2) g3
    simp only [Nat.add_zero] at hst
    have hsz : v'.cells.size = n := by rw [hb, hv.cells.1, ← vcells_eq]; simp
    simp [Instr.storeAt, Instr.sureAddr, storeVar, szOf_run hn, hsz, vcells_eq, hst]
  ·cases hs
 ·cases hs

theorem byteVals_eq (s : ByteArray) : byteVals s s.size = byteCells s := by
 unfold byteVals byteCells
 rw [List.take_of_length_le (by rw [Array.length_toList]; exact Nat.le_refl _)]
/-- what an append or a copy takes from: n elements of a slice or a string -/
theorem firstA_sound (hr : HR B σ h.heap.get nx w) {sz n : Nat} {x x' : Value} {l : List Value} (hx : VR σ x x') (hl : firstA h sz n x = some l) (hn : ∃ m, lenOfA x = some m ∧ n ≤ m) (hstr : ∀ s, x = .string s → sz = 1) :
  ∃ us : List Value, LR σ l us ∧ us.length = n * sz ∧ ∀ w2 : World, w2.heap = w.heap → (Builtin.firstCells sz n x').run P w2 = .ok us.toArray w2 := by
 unfold firstA at hl
 split at hl
 ·rename_i k off sp len c
  obtain ⟨b, κ, o, c', hσ, rfl, ho⟩ := hx.any_slice
  obtain ⟨us, h1, h2, h3⟩ := readN_sound hr hl hσ
  refine ⟨us, h1, h2, fun w2 hw2 => ?_⟩
  have hc : ∀ (j : Nat) (u : Value), us[j]? = some u → w2.cell? ((⟨b, o, none⟩ : Addr).add j) = some u := fun j u hj => by
   rw [addr_add]
   obtain ⟨m, hm1, hm2⟩ := hn
   simp only [lenOfA, Option.some.injEq] at hm1
   have hjl := (List.getElem?_eq_some_iff.1 hj).1
   have hn0 : 0 < n := by
    rcases Nat.eq_zero_or_pos n with h0 | h0
    ·rw [h0, Nat.zero_mul] at h2; omega
    ·exact h0
   have := ho (by omega)
   subst this
   have := h3 j u hj
   simpa [World.cell?, hw2] using this
  have := run_loadCells_list (P := P) w2 ⟨b, o, none⟩ us hc
  rw [h2] at this
  simp [Builtin.firstCells, this]
 ·rename_i len c
  cases hb : Nat.beq (n * sz) 0 with
  | false => rw [hb] at hl; cases hl
  | true =>
   rw [hb] at hl
   simp only [cond_true, Option.some.injEq] at hl
   subst hl
   have e := hx.atom_inv rfl
   subst e
   exact ⟨[], LR.nil, (beq_of hb).symm, fun w2 _ => rfl⟩
 ·rename_i s
  injection hl with hl; subst hl
  have e := hx.atom_inv rfl
  subst e
  have := hstr s rfl
  subst this
  obtain ⟨m, hm1, hm2⟩ := hn
  simp only [lenOfA, Option.some.injEq] at hm1
  subst hm1
  have hfl : (byteVals s n).all (flatN 0) = true := by
   rw [List.all_eq_true]
   intro v hv
   unfold byteVals at hv
   obtain ⟨b, _, rfl⟩ := List.mem_map.1 hv
   rfl
  have hlen : s.data.toList.length = s.size := by rw [Array.length_toList]; rfl
  refine ⟨byteVals s n, LR.same hfl, by unfold byteVals; rw [List.length_map, List.length_take, hlen]; omega, fun w2 _ => ?_⟩
  have e : (s.extract 0 n).data.map (fun b => Value.int .u8 b.toNat) = (byteVals s n).toArray := by
   apply Array.ext'
   unfold byteVals
   simp [ByteArray.data_extract]
  show (pure ((s.extract 0 n).data.map fun b => Value.int .u8 b.toNat) : Sem (Array Value)).run P w2 = _
  rw [e]; rfl
 ·cases hl
end
end Go.Proofs.YtflnpcgnenhogaaGreatDoor.ev

namespace Go.Proofs.YtflnpcgnenhogaaGreatDoor.ev
open Go Go.RowKit

section
variable {B : Nat} {P : Program} {σ : Sg} {h : H} {w : World}

/-- what the second argument of an append yields: what is wanted of it -/
structure SrcK (P : Program) (t tx e : TypeId) (i : TypeInfo) (x : Value) (n : Nat) (news : List Value) (w : World) : Prop where
 len : news.length = n * i.size
 nothing : n = 0 → ∀ (ty : TypeId) (base : Option Addr) (sLen sCap : Nat), sLen ≤ sCap → (Builtin.append_ #[t, tx] ty #[.slice base sLen sCap, x]).run P w = .ok (.slice base sLen sCap) w
 room : ∀ (ty : TypeId) (b off sLen sCap : Nat), sLen + n ≤ sCap → (∀ j, j < news.length → (w.cell? ⟨b, off + sLen * i.size + j, none⟩).isSome = true) → (∀ j, j < news.length → w.frozen? ⟨b, off + sLen * i.size + j, none⟩ = false) →
  (Builtin.append_ #[t, tx] ty #[.slice (some ⟨b, off, none⟩) sLen sCap, x]).run P w = .ok (.slice (some ⟨b, off, none⟩) (sLen + n) sCap) (w.setCells b (off + sLen * i.size) news)
 grow : ∀ (ty : TypeId) (z : Value) (_ : i.zero = some z) (base : Option Addr) (sLen sCap : Nat) (olds : List Value), (Builtin.firstCells i.size sLen (.slice base sLen sCap)).run P w.drew = .ok olds.toArray w.drew →
  sCap < sLen + n → ((sLen + n : Nat) : Int) ≤ 9223372036854775807 → Builtin.nextslicecap (sLen + n) sCap * i.bytes ≤ 281474976710656 →
  (Builtin.append_ #[t, tx] ty #[.slice base sLen sCap, x]).run P w =
   .ok (.slice (some ⟨w.heap.size, 0, none⟩) (sLen + n) (grownCap w (sLen + n) sCap e))
    (w.drew.alloc (.cells ((olds ++ news).toArray ++ Builtin.zeroCells z.cells (grownCap w (sLen + n) sCap e - (sLen + n))) e))
theorem SrcK.ofSrc {t tx e : TypeId} {i : TypeInfo} {x : Value} {n : Nat} {news : List Value} (ht : P.underlying t = some (.slice e)) (hi : P.info? e = some i) (hs : Src P i.size tx x n news w) : SrcK P t tx e i x n news w := by
 refine ⟨hs.newsLen, fun h0 ty base sLen sCap hle => ?_, fun ty b off sLen sCap hroom hc hf => run_append_room_src (P := P) w t tx ty e i ht hi b off sLen sCap x n news hs hroom hc hf,
  fun ty z hz base sLen sCap olds hold hg h63 hfit => run_append_grow_src (P := P) w t tx ty e i z ht hi hz base sLen sCap olds hold x n news hs hg h63 hfit⟩
 subst h0
 have hnil : news = [] := List.eq_nil_of_length_eq_zero (by rw [hs.newsLen]; simp)
 subst hnil
 exact run_append_nothing w t tx ty e i ht hi base sLen sCap hle x hs
theorem SrcK.ofZeros {t tx e : TypeId} {i : TypeInfo} {z : Value} {kq kn : IntKind} {n : Nat} (ht : P.underlying t = some (.slice e)) (htn : P.underlying tx = some (.int kn)) (hi : P.info? e = some i) (hz : i.zero = some z)
  (h1 : 0 < i.size) (hzs : z.cells.size = i.size) (hone : ∀ u ∈ repeatCells (vcells z) n, u.oneCell' = true) (hn : n ≤ 16777216) (hb : n * i.bytes ≤ 16777216) : SrcK P t tx e i (.int kq n) n (repeatCells (vcells z) n) w := by
 have hrep : (Builtin.zeroCells z.cells n) = (repeatCells (vcells z) n).toArray := by
  apply Array.ext'
  rw [← vcells_eq]
  exact made_eq z.cells n (.inl (by omega))
 have hw : IntKind.i64.wrap (n : Int) = n := by rw [IntKind.wrap_i64]; omega
 have hneg : ¬ ((n : Int) < 0) := by omega
 have h48i : ¬ (281474976710656 < (n : Int) * (i.bytes : Int)) := by
  rw [← Int.natCast_mul]
  omega
 have hlen : (repeatCells (vcells z) n).length = n * i.size := by rw [repeat_length, ← hzs, ← vcells_eq]; simp
 have hw0 : IntKind.i64.wrap (0 : Int) = 0 := rfl
 refine ⟨hlen, fun h0 ty base sLen sCap hle => ?_, fun ty b off sLen sCap hroom hc hf => ?_, fun ty z' hz' base sLen sCap olds hold hg h63 hfit => ?_⟩
 ·subst h0
  cases base <;> simp [Builtin.append_, run_underlying ht, run_underlying htn, sizeOf, typeInfo, hi, Go.asInt, Go.asIntOf, hw0, hle, storeCells]
 ·by_cases h0 : n = 0
  ·subst h0
   simp [Builtin.append_, run_underlying ht, run_underlying htn, sizeOf, typeInfo, hi, Go.asInt, Go.asIntOf, hw0, show sLen ≤ sCap by omega, storeCells, repeatCells, World.setCells]
  ·have hst := run_storeCells_cells (P := P) b (off + sLen * i.size) (repeatCells (vcells z) n) 0 w (by simpa using hc) (by simpa using hf) hone
   simp only [Nat.add_zero] at hst
   have hns : ¬ (n * i.size = 0) := Nat.mul_ne_zero h0 (by omega)
   simp [Builtin.append_, run_underlying ht, run_underlying htn, sizeOf, typeInfo, zeroValue, hi, hz, Go.asInt, Go.asIntOf, hw, hneg, h48i, hns, hroom, hrep, Addr.add_lit, hst]
 ·rw [hz] at hz'; injection hz' with hz'; subst hz'
  have hp : 0 < n ∨ n = 0 := by omega
  rcases hp with hp | hp
  ·have := Lib.run_append_grow_zeros (P := P) w t tx ty e i z kq kn ht htn hi hz base sLen sCap olds hold n hp h1 hg h63 (by omega) hfit
   rw [this, hrep]
   simp
  ·subst hp
   have hnn : ¬ (sLen ≤ sCap) := by omega
   have h63' : ¬ (9223372036854775807 < (sLen : Int)) := by omega
   have h48' : ¬ (281474976710656 < Builtin.nextslicecap sLen sCap * i.bytes) := by simp only [Nat.add_zero] at hfit; omega
   simp [Builtin.append_, run_underlying ht, run_underlying htn, sizeOf, typeInfo, zeroValue, hi, hz, Go.asInt, Go.asIntOf, hw0, hnn, h63', h48', Question.forced, hold, newRow, grownCap, repeatCells]

theorem srcA_sound (hr : HR B σ h.heap.get h.next w) {sz m : Nat} {t tx e : TypeId} {i : TypeInfo} {x x' : Value} {new : List Value} (ht : P.underlying t = some (.slice e)) (hi : P.info? e = some i) (hisz : i.size = sz) (hx : VR σ x x') (hs : srcA P h e sz tx x = some (m, new)) :
  ∃ us, LR σ new us ∧ SrcK P t tx e i x' m us w := by
 subst hisz
 unfold srcA at hs
 split at hs
 ·rename_i m0 d hm hd
  cases hb : rowish d && strOk i.size x with
  | false => rw [hb] at hs; cases hs
  | true =>
   rw [hb] at hs
   simp only [cond_true] at hs
   simp only [Bool.and_eq_true] at hb
   split at hs
   ·rename_i new0 hn
    cases ho : new0.all oneCell with
    | false => rw [ho] at hs; cases hs
    | true =>
     rw [ho] at hs
     simp only [cond_true, Option.some.injEq, Prod.mk.injEq] at hs
     obtain ⟨rfl, rfl⟩ := hs
     obtain ⟨us, h1, h2, h3⟩ := firstA_sound (P := P) hr hx hn ⟨m0, hm, Nat.le_refl _⟩ (fun s hs => by subst hs; exact beq_of hb.2)
     have hlen : ∀ w' : World, (Builtin.lenOf x').run P w' = .ok m0 w' := fun w' => by
      unfold lenOfA at hm
      split at hm
      ·rename_i a0 n0 c0
       injection hm with hm; subst hm
       have key : ∃ a' c', x' = .slice a' n0 c' := by
        cases hx with
        | atom h => exact ⟨_, _, rfl⟩
        | slice h => exact ⟨_, _, rfl⟩
        | loose h h' => exact ⟨_, _, rfl⟩
        | void h => exact ⟨_, _, rfl⟩
       obtain ⟨a', c', rfl⟩ := key
       rfl
      ·injection hm with hm; subst hm
       have e := hx.atom_inv rfl
       subst e
       rfl
      ·cases hm
     refine ⟨us, h1, SrcK.ofSrc ht hi ⟨?_, hlen, h3 w rfl, h3 w.drew rfl, h2, all_one h1 ho⟩⟩
     cases d <;> first
      | exact .inl ⟨_, hd⟩
      | exact .inr hd
      | (have := hb.1; simp [rowish] at this)
   ·cases hs
 ·unfold zerosA at hs
  split at hs
  ·rename_i kq1 m0 kn1 hk _
   split at hs
   ·rename_i i' hi'
    rw [hi] at hi'; injection hi' with hi'; subst hi'
    split at hs
    ·rename_i z hz
     cases hb : Nat.ble 1 i.size && Nat.beq i.size i.size && Nat.beq (vcells z).length i.size && Nat.ble m0 16777216 && Nat.ble (m0 * i.bytes) 16777216 && flatN 6 z && (vcells z).all oneCell && (vcells z).all (flatN 6) with
     | false => rw [hb] at hs; cases hs
     | true =>
      rw [hb] at hs
      simp only [cond_true, Option.some.injEq, Prod.mk.injEq] at hs
      obtain ⟨rfl, rfl⟩ := hs
      simp only [Bool.and_eq_true] at hb
      obtain ⟨⟨⟨⟨⟨⟨⟨b1, _⟩, b2⟩, b3⟩, b4⟩, _⟩, b5⟩, b6⟩ := hb
      have e0 := hx.atom_inv rfl
      subst e0
      have hl : LR σ (repeatCells (vcells z) m0) (repeatCells (vcells z) m0) := LR.repeat (LR.same b6) m0
      have hall : (repeatCells (vcells z) m0).all oneCell = true := by
       rw [List.all_eq_true]
       intro u hu
       obtain ⟨j, hj⟩ := List.getElem?_of_mem hu
       have hlt := (List.getElem?_eq_some_iff.1 hj).1
       rw [repeat_length] at hlt
       rw [repeat_get _ _ _ hlt] at hj
       exact List.all_eq_true.1 b5 u (List.mem_of_getElem? hj)
      refine ⟨_, hl, SrcK.ofZeros ht hk hi hz (ble_of b1) ?_ (all_one hl hall) (ble_of b3) (ble_of b4)⟩
      have := beq_of b2
      rw [← this, ← vcells_eq]; simp
    ·cases hs
   ·cases hs
  ·cases hs
 ·cases hs

theorem infoOf {e : TypeId} {sz : Nat} {i : TypeInfo} (hsz : szOf P e = some sz) (hi : P.info? e = some i) : i.size = sz := by
 unfold szOf at hsz; rw [hi] at hsz; injection hsz

/-- a row that grows -/
theorem growA_sound (hr : HR B σ h.heap.get h.next w) {t tx ty e : TypeId} {sz m sLen sCap : Nat} {s : Value} {base : Option Addr} {x' : Value} {new us : List Value} {v : Value} {h' : H} (hsz : szOf P e = some sz)
  (hs : VR σ s (.slice base sLen sCap)) (hlen : lenOfA s = some sLen) (hus : LR σ new us) (hsrc : ∀ i, P.info? e = some i → SrcK P t tx e i x' m us w) (hg : sCap < sLen + m) (hgr : growA P h e sz s sLen (sLen + m) new = some (v, h')) :
  ∃ u w' σ', (Builtin.append_ #[t, tx] ty #[.slice base sLen sCap, x']).run P w = .ok u w' ∧ VR σ' v u ∧ Step B σ h.heap.get h.next w σ' h'.heap.get h'.next w' := by
 unfold growA at hgr
 split at hgr
 ·rename_i i hi
  split at hgr
  ·rename_i z hz
   cases hb : Nat.ble ((sLen + m) * i.bytes) 140737488355328 && Nat.ble (sLen + m) 140737488355328 && Nat.beq (vcells z).length sz with
   | false => rw [hb] at hgr; cases hgr
   | true =>
    rw [hb] at hgr
    simp only [cond_true] at hgr
    simp only [Bool.and_eq_true] at hb
    obtain ⟨⟨b1, b2⟩, b3⟩ := hb
    have b1 := ble_of b1
    have b2 := ble_of b2
    have b3 := beq_of b3
    split at hgr
    ·rename_i old hold
     split at hgr
     ·rename_i c hc
      split at hgr
      ·rename_i k h1 hnew
       simp only [Option.some.injEq, Prod.mk.injEq] at hgr
       obtain ⟨rfl, rfl⟩ := hgr
       have hisz := infoOf hsz hi
       obtain ⟨olds, o1, o2, o3⟩ := firstA_sound (P := P) hr hs hold ⟨sLen, hlen, Nat.le_refl _⟩ (fun q hq => by subst hq; simp [lenOfA] at hlen; cases hs)
       have hsrc := hsrc i hi
       have hrun := hsrc.grow ty z hz base sLen sCap olds (by rw [hisz]; exact o3 w.drew rfl) hg (by omega) (growslice_fits (by omega) b1)
       obtain ⟨rfl, e2, e3, e4⟩ := H.new_inv hnew
       have hge := grownCap_ge w (sLen + m) sCap e
       refine ⟨_, _, σ.set h.next w.heap.size (grownCap w (sLen + m) sCap e), hrun, ?_, ?_⟩
       ·have := VR.loose (σ := σ.set h.next w.heap.size (grownCap w (sLen + m) sCap e)) (k := h.next) (b := w.heap.size) (κ := grownCap w (sLen + m) sCap e) (o := 0) (d := 0) (n := sLen + m) (Sg.set_same _ _ _ _) (by omega)
        simpa using this
       ·rw [e2]
        have hl2 : LR (σ.set h.next w.heap.size (grownCap w (sLen + m) sCap e)) (old ++ new) (olds ++ us) := (o1.append hus).mono (Sg.set_le _ _ (hr.fresh _ (Nat.le_refl _)).1)
        have hlz : (olds ++ us).length = (sLen + m) * sz := by rw [List.length_append, o2, hsrc.len, hisz, Nat.add_mul]
        refine hr.newB (o := .row (old ++ new).length c undef e (some sz) true) (w' := w.drew.alloc (.cells ((olds ++ us).toArray ++ Builtin.zeroCells z.cells (grownCap w (sLen + m) sCap e - (sLen + m))) e)) rfl rfl rfl rfl ?_ e3 e4
        refine ⟨_, (0, 0), rfl, ?_, fun j hj => ?_, fun q hq => ?_, fun _ j _ => by simp, fun hq => by cases hq⟩
        ·simp; have := hl2.1; simp at this; omega
        ·have h1 := T.get_setMany (old ++ new) .leaf c 0 hc j
         rw [if_pos ⟨Nat.zero_le _, by omega⟩, Nat.sub_zero] at h1
         have h2 : (old ++ new)[j]? = some (old ++ new)[j] := List.getElem?_eq_getElem hj
         obtain ⟨u, g1, g2⟩ := hl2.get h2
         refine ⟨u, ?_, ?_⟩
         ·rw [Array.getElem?_append]
          have : j < (olds ++ us).toArray.size := by have := hl2.1; simp at this hj ⊢; omega
          rw [if_pos this]
          simpa using g1
         ·unfold cellAt
          rw [h1, h2]
          exact g2
        ·injection hq with hq; subst hq
         have hzs : z.cells.size = sz := by rw [← b3, ← vcells_eq]; simp
         rw [Array.size_append, size_zeroCells, hzs]
         have : (olds ++ us).toArray.size = (sLen + m) * sz := by rw [List.size_toArray, hlz]
         rw [this, ← Nat.add_mul]
         congr 1
         omega
      ·cases hgr
     ·cases hgr
    ·cases hgr
  ·cases hgr
 ·cases hgr

/-- a row that goes on under another name -/
theorem HR.move {B : Nat} {σ : Sg} {hp : Nat → Option AO} {nx : Nat} {w : World} (h : HR B σ hp nx w) {k : Nat} {o : AO} {b κ : Nat} (hk : hp k = some o) (hd : o.isDead = false) (hr : o.ro = false) (hs : σ k = some (b, κ)) {o' : AO} {ob' : Obj} {w' : World}
  (_ : o'.isDead = false) (e1 : w'.os = w.os) (e2 : w'.tape = w.tape) (e3 : w'.output = w.output) (e4 : w'.heap.size = w.heap.size) (hb : w'.heap[b]? = some ob') (hot : ∀ c, c ≠ b → w'.heap[c]? = w.heap[c]?) (ho : ORel (σ.set nx b κ) κ o' ob')
  {hp' : Nat → Option AO} (hp0 : hp' k = some .dead) (hp1 : hp' nx = some o') (hp2 : ∀ j, j ≠ k → j ≠ nx → hp' j = hp j) : Step B σ hp nx w (σ.set nx b κ) hp' (nx + 1) w' := by
 have hle : σ.le (σ.set nx b κ) := Sg.set_le _ _ (h.fresh nx (Nat.le_refl _)).1
 have hlt : k < nx := by
  rcases Nat.lt_or_ge k nx with h' | h'
  ·exact h'
  ·rw [(h.fresh k h').1] at hs; cases hs
 have hB : B ≤ b := by
  obtain ⟨b', κ', ob, a1, _, _, a2⟩ := h.live k o hk hd
  rw [hs] at a1; injection a1 with a1; injection a1 with a1 a3; subst a1
  exact a2 hr
 have hblt := h.lt_of hk hd hs
 have old : ∀ j oj, hp' j = some oj → oj.isDead = false → j ≠ nx → hp j = some oj ∧ j ≠ k := fun j oj g1 g2 g3 => by
  have hjk : j ≠ k := by rintro rfl; rw [hp0] at g1; injection g1 with g1; subst g1; cases g2
  exact ⟨by rw [← hp2 j hjk g3]; exact g1, hjk⟩
 refine ⟨e1, e2, e3, by omega, fun c hc hn => ?_, fun j oj c κj h1 h2 h3 => ?_, fun j hj => Sg.set_other _ _ _ (by omega), fun j hj hn => ?_, fun j oj hj => ?_, by omega,
  ⟨fun j oj h1 h2 => ?_, fun j j' oj oj' c κj κj' h1 h2 h3 h4 h5 h6 => ?_, fun j hj => ?_, by rw [e4]; exact h.base, fun i hi => ?_⟩⟩
 ·refine hot c fun e => ?_
  subst e
  exact hn k o κ hk hd hr hs
 ·by_cases hj : j = nx
  ·subst hj
   rw [Sg.set_same] at h3; injection h3 with h3; injection h3 with h3 h4; subst h3
   exact .inr ⟨k, o, κ, hk, hd, hs, fun _ => hr⟩
  ·obtain ⟨g1, _⟩ := old j oj h1 h2 hj
   rw [Sg.set_other _ _ _ hj] at h3
   exact .inr ⟨j, oj, κj, g1, h2, h3, id⟩
 ·have hjk : j ≠ k := by rintro rfl; rw [hk] at hn; cases hn
  rw [hp2 j hjk (by omega)]; exact hn
 ·by_cases hjk : j = k
  ·subst hjk; exact ⟨_, hp0⟩
  ·by_cases hjn : j = nx
   ·subst hjn; exact ⟨_, hp1⟩
   ·rw [hp2 j hjk hjn]; exact ⟨oj, hj⟩
 ·by_cases hj : j = nx
  ·subst hj
   rw [hp1] at h1; injection h1 with h1; subst h1
   exact ⟨b, κ, ob', Sg.set_same _ _ _ _, hb, ho, fun _ => hB⟩
  ·obtain ⟨g1, hjk⟩ := old j oj h1 h2 hj
   obtain ⟨c, κj, oc, a1, a2, a3, a4⟩ := h.live j oj g1 h2
   refine ⟨c, κj, oc, by rw [Sg.set_other _ _ _ hj]; exact a1, ?_, a3.mono hle, a4⟩
   rw [hot c (fun e => ?_)]
   ·exact a2
   ·subst e
    exact hjk (h.inj j k oj o c κj κ g1 h2 hk hd a1 hs)
 ·by_cases hj : j = nx
  ·by_cases hj' : j' = nx
   ·omega
   ·obtain ⟨g1, hjk⟩ := old j' oj' h3 h4 hj'
    rw [Sg.set_other _ _ _ hj'] at h6
    subst hj
    rw [Sg.set_same] at h5
    injection h5 with h5; injection h5 with h5 h7; subst h5
    exact absurd (h.inj j' k oj' o b κj' κ g1 h4 hk hd h6 hs) hjk
  ·obtain ⟨g1, hjk⟩ := old j oj h1 h2 hj
   rw [Sg.set_other _ _ _ hj] at h5
   by_cases hj' : j' = nx
   ·subst hj'
    rw [Sg.set_same] at h6
    injection h6 with h6; injection h6 with h6 h7; subst h6
    exact absurd (h.inj j k oj o b κj κ g1 h2 hk hd h5 hs) hjk
   ·obtain ⟨g2, _⟩ := old j' oj' h3 h4 hj'
    rw [Sg.set_other _ _ _ hj'] at h6
    exact h.inj j j' oj oj' c κj κj' g1 h2 g2 h4 h5 h6
 ·have := h.fresh j (by omega)
  exact ⟨by rw [Sg.set_other _ _ _ (by omega)]; exact this.1, by rw [hp2 j (by omega) (by omega)]; exact this.2⟩
 ·rw [Sg.set_other _ _ _ ?_]
  ·exact h.glob i hi
  ·rintro rfl
   have := h.glob i hi
   rw [(h.fresh i (Nat.le_refl _)).1] at this
   cases this
end
end Go.Proofs.YtflnpcgnenhogaaGreatDoor.ev

namespace Go.Proofs.YtflnpcgnenhogaaGreatDoor.ev
open Go Go.RowKit

section
variable {B : Nat} {P : Program} {σ : Sg} {h : H} {w : World}

theorem appendA_sound (hr : HR B σ h.heap.get h.next w) {t tx ty : TypeId} {s x s' x' v : Value} {h' : H} (hs : VR σ s s') (hx : VR σ x x') (ha : appendA P h t tx s x = some (v, h')) :
    ∃ u w' σ', (Builtin.append_ #[t, tx] ty #[s', x']).run P w = .ok u w' ∧ VR σ' v u ∧ Step B σ h.heap.get h.next w σ' h'.heap.get h'.next w' := by
  unfold appendA at ha
  split at ha
  · rename_i e ht
    split at ha
    · rename_i sz hsz
      split at ha
      · rename_i m new hsr
        obtain ⟨i, hi, hisz⟩ : ∃ i, P.info? e = some i ∧ i.size = sz := by
          unfold szOf at hsz
          cases hie : P.info? e with
          | none => rw [hie] at hsz; cases hsz
          | some i => rw [hie] at hsz; injection hsz with hsz; exact ⟨i, rfl, hsz⟩
        obtain ⟨us, hus, hsrc'⟩ := srcA_sound hr ht hi hisz hx hsr
        have hsrc : ∀ i, P.info? e = some i → SrcK P t tx e i x' m us w := fun i2 hi2 => by rw [hi] at hi2; injection hi2 with hi2; subst hi2; exact hsrc'
        have nothing : m = 0 → ∀ (base : Option Addr) (sLen sCap : Nat), sLen ≤ sCap → (Builtin.append_ #[t, tx] ty #[.slice base sLen sCap, x']).run P w = .ok (.slice base sLen sCap) w := fun h0 base sLen sCap hle => by
          exact hsrc'.nothing h0 ty base sLen sCap hle
        split at ha
        · have e0 := hs.atom_inv rfl
          subst e0
          cases hb : Nat.beq m 0 with
          | true =>
            rw [hb] at ha
            simp only [cond_true, Option.some.injEq, Prod.mk.injEq] at ha
            obtain ⟨rfl, rfl⟩ := ha
            exact ⟨_, w, σ, nothing (beq_of hb) none 0 0 (Nat.le_refl _), .atom rfl, Step.refl hr⟩
          | false =>
            rw [hb] at ha
            simp only [cond_false] at ha
            have hm := nbeq_of hb
            exact growA_sound (ty := ty) hr hsz hs rfl hus hsrc (by omega) (by rw [Nat.zero_add]; exact ha)
        · rename_i k off len cap
          obtain ⟨b, κ, hσ, rfl⟩ := hs.slice_inv
          cases hb : Nat.ble (len + m) cap with
          | true =>
            rw [hb] at ha
            simp only [cond_true] at ha
            split at ha
            · rename_i h1 hw
              simp only [Option.some.injEq, Prod.mk.injEq] at ha
              obtain ⟨rfl, rfl⟩ := ha
              obtain ⟨g1, g2, g3, g4⟩ := writeN_sound hr hw hσ hus
              have hrun := hsrc'.room ty b off len cap (ble_of hb) (by rw [hisz]; exact g1) (by rw [hisz]; exact g2)
              rw [hisz] at hrun
              exact ⟨_, _, σ, hrun, .slice hσ, g4⟩
            · cases ha
          | false =>
            rw [hb] at ha
            simp only [cond_false] at ha
            have hnb : ¬ (len + m ≤ cap) := fun hle => by rw [Nat.ble_eq_true_of_le hle] at hb; cases hb
            exact growA_sound (ty := ty) hr hsz hs rfl hus hsrc (by omega) ha
        · rename_i k off d len
          obtain ⟨b, κ, hσ, hle, rfl⟩ := hs.loose_inv
          cases hb : Nat.beq m 0 with
          | true =>
            rw [hb] at ha
            simp only [cond_true, Option.some.injEq, Prod.mk.injEq] at ha
            obtain ⟨rfl, rfl⟩ := ha
            exact ⟨_, w, σ, nothing (beq_of hb) _ len (κ - d) (by omega), hs, Step.refl hr⟩
          | false =>
            rw [hb] at ha
            simp only [cond_false] at ha
            have hm := nbeq_of hb
            split at ha
            · rename_i n cells df el sz' hk
              cases hc : Nat.beq sz sz' && Nat.beq el e && Nat.ble 1 sz with
              | false => rw [hc] at ha; cases ha
              | true =>
                rw [hc] at ha
                simp only [cond_true] at ha
                simp only [Bool.and_eq_true] at hc
                obtain ⟨⟨c1, c2⟩, c3⟩ := hc
                have c1 := beq_of c1
                have c2 := beq_of c2
                have c3 := ble_of c3
                subst c1; subst c2
                obtain ⟨c, fz, r1, r2, r3, r4, r5⟩ := hr.row hk hσ
                have r4 := r4 sz rfl
                cases hq : Nat.beq off (d * sz) && Nat.ble (off + (len + m) * sz) n with
                | true =>
                  rw [hq] at ha
                  simp only [cond_true] at ha
                  simp only [Bool.and_eq_true] at hq
                  have q1 := beq_of hq.1
                  have q2 := ble_of hq.2
                  split at ha
                  · rename_i h1 hw
                    simp only [Option.some.injEq, Prod.mk.injEq] at ha
                    obtain ⟨rfl, rfl⟩ := ha
                    obtain ⟨g1, g2, g3, g4⟩ := writeN_sound hr hw hσ hus
                    have hroom : d + (len + m) ≤ κ := by
                      have h1 : (d + (len + m)) * sz ≤ κ * sz := by rw [Nat.add_mul, ← q1]; omega
                      exact Nat.le_of_mul_le_mul_right h1 (by omega)
                    have hrun := hsrc'.room ty b off len (κ - d) (by omega) (by rw [hisz]; exact g1) (by rw [hisz]; exact g2)
                    rw [hisz] at hrun
                    exact ⟨_, _, σ, hrun, .loose hσ hroom, g4⟩
                  · cases ha
                | false =>
                  rw [hq] at ha
                  simp only [cond_false] at ha
                  cases hp : Nat.beq off 0 && Nat.beq d 0 && Nat.ble (len * sz) n && Nat.ble n ((len + m) * sz) with
                  | false => rw [hp] at ha; cases ha
                  | true =>
                    rw [hp] at ha
                    simp only [cond_true] at ha
                    simp only [Bool.and_eq_true] at hp
                    obtain ⟨⟨⟨p1, p2⟩, p3⟩, p4⟩ := hp
                    have p1 := beq_of p1
                    have p2 := beq_of p2
                    have p3 := ble_of p3
                    have p4 := ble_of p4
                    subst p1; subst p2
                    split at ha
                    · rename_i i2 hi2
                      rw [hi] at hi2; injection hi2 with hi2; subst hi2
                      split at ha
                      · rename_i z hz
                        cases hv : Nat.ble ((len + m) * i.bytes) 140737488355328 && Nat.ble (len + m) 140737488355328 && Nat.beq (vcells z).length sz with
                        | false => rw [hv] at ha; cases ha
                        | true =>
                          rw [hv] at ha
                          simp only [cond_true] at ha
                          simp only [Bool.and_eq_true] at hv
                          obtain ⟨⟨v1, v2⟩, v3⟩ := hv
                          have v1 := ble_of v1
                          have v2 := ble_of v2
                          have v3 := beq_of v3
                          split at ha
                          · rename_i c' hc'
                            split at ha
                            · rename_i h1 hdead
                              split at ha
                              · rename_i k' h2 hnew
                                simp only [Option.some.injEq, Prod.mk.injEq] at ha
                                obtain ⟨rfl, rfl⟩ := ha
                                obtain ⟨d1, d2, d3⟩ := H.set_inv hdead
                                obtain ⟨n1, n2, n3, n4⟩ := H.new_inv hnew
                                rw [d1] at n1 n2 n3 n4
                                subst n1
                                have hkn : k ≠ h.next := by
                                  rintro rfl
                                  rw [(hr.fresh _ (Nat.le_refl _)).1] at hσ; cases hσ
                                have hp0 : h2.heap.get k = some .dead := by rw [n4 k hkn]; exact d2
                                have hp2 : ∀ j, j ≠ k → j ≠ h.next → h2.heap.get j = h.heap.get j := fun j g1 g2 => by rw [n4 j g2, d3 j g1]
                                have hul : us.length = m * sz := by rw [hsrc'.len, hisz]
                                have hnl := hus.1
                                -- the cells of the new row
                                have hcell : ∀ j, j < (len + m) * sz → (len * sz ≤ j → ∃ u, new[j - len * sz]? = some u ∧ cellAt c' df j = u) ∧ (j < len * sz → cellAt c' df j = cellAt cells df j) := fun j hj => by
                                  have hg := T.get_setMany new cells c' (len * sz) hc' j
                                  refine ⟨fun hle => ?_, fun hlt => ?_⟩
                                  · rw [if_pos ⟨hle, by rw [hnl, hul]; rw [Nat.add_mul] at hj; omega⟩] at hg
                                    have hlt : j - len * sz < new.length := by rw [hnl, hul]; rw [Nat.add_mul] at hj; omega
                                    refine ⟨new[j - len * sz], List.getElem?_eq_getElem hlt, ?_⟩
                                    unfold cellAt
                                    rw [hg, List.getElem?_eq_getElem hlt]
                                  · rw [if_neg (by omega)] at hg
                                    unfold cellAt
                                    rw [hg]
                                by_cases hroom : len + m ≤ κ
                                · -- there was room
                                  have hc1 : ∀ j, j < us.length → (w.cell? ⟨b, 0 + len * i.size + j, none⟩).isSome = true := fun j hj => by
                                    have : len * sz + j < c.size := by
                                      rw [r4]
                                      have : (len + m) * sz ≤ κ * sz := Nat.mul_le_mul_right _ hroom
                                      rw [Nat.add_mul] at this
                                      omega
                                    rw [hisz, Nat.zero_add]
                                    simp [World.cell?, r1, this]
                                  have hc2 : ∀ j, j < us.length → w.frozen? ⟨b, 0 + len * i.size + j, none⟩ = false := fun j hj => by
                                    have : len * sz + j < c.size := by
                                      rw [r4]
                                      have : (len + m) * sz ≤ κ * sz := Nat.mul_le_mul_right _ hroom
                                      rw [Nat.add_mul] at this
                                      omega
                                    rw [hisz, Nat.zero_add]
                                    simp only [World.frozen?, r1]
                                    exact r5 rfl _ this
                                  have hrun := hsrc'.room ty b 0 len (κ - 0) (by omega) hc1 hc2
                                  obtain ⟨s1, s2, s3, s4, s5⟩ := setCells_same b us (0 + len * i.size) w
                                  obtain ⟨cc, t1, t2, t3, t4⟩ := setCells_row b us (0 + len * i.size) w c el fz r1
                                  rw [hisz, Nat.zero_add] at s1 s2 s3 s4 s5 t1 t3 t4 hrun
                                  have hle' : σ.le (σ.set h.next b κ) := Sg.set_le _ _ (hr.fresh _ (Nat.le_refl _)).1
                                  refine ⟨_, _, σ.set h.next b κ, hrun, .loose (Sg.set_same _ _ _ _) (by omega), ?_⟩
                                  rw [n2]
                                  refine hr.move (o' := .row ((len + m) * sz) c' df el (some sz) true) hk rfl rfl hσ rfl s1 s2 s3 s4 t1 s5 ⟨cc, fz, rfl, ?_, fun j hj => ?_, fun q hq => ?_, fun _ j hj => r5 rfl j (by omega), fun hq => by cases hq⟩ hp0 n3 hp2
                                  · rw [t2, r4]; exact Nat.mul_le_mul_right _ hroom
                                  · obtain ⟨x1, x2⟩ := hcell j hj
                                    by_cases hjl : j < len * sz
                                    · rw [x2 hjl]
                                      obtain ⟨u, y1, y2⟩ := r3 j (by omega)
                                      exact ⟨u, by rw [t3 j (.inl hjl)]; exact y1, y2.mono hle'⟩
                                    · obtain ⟨u0, y1, y2⟩ := x1 (by omega)
                                      rw [y2]
                                      obtain ⟨u, z1, z2⟩ := hus.get y1
                                      have hj2 : j - len * sz < us.length := (List.getElem?_eq_some_iff.1 z1).1
                                      refine ⟨u, ?_, z2.mono hle'⟩
                                      have := t4 (j - len * sz) hj2 (by rw [r4]; have : (len + m) * sz ≤ κ * sz := Nat.mul_le_mul_right _ hroom
                                                                        omega)
                                      rw [show len * sz + (j - len * sz) = j by omega] at this
                                      rw [this]; exact z1
                                  · injection hq with hq; subst hq; rw [t2]; exact r4
                                · -- there was none
                                  have hge := grownCap_ge w (len + m) (κ - 0) el
                                  have hold : (Builtin.firstCells i.size len (.slice (some ⟨b, 0, none⟩) len (κ - 0))).run P w.drew = .ok (c.toList.take (len * sz)).toArray w.drew := by
                                    have hcl : len * sz ≤ c.size := by omega
                                    have := run_loadCells_list (P := P) w.drew ⟨b, 0, none⟩ (c.toList.take (len * sz)) (fun j u hj => by
                                      have hjl := (List.getElem?_eq_some_iff.1 hj).1
                                      rw [List.getElem?_take] at hj
                                      rw [List.length_take] at hjl
                                      rw [if_pos (by omega), Array.getElem?_toList] at hj
                                      rw [addr_add, Nat.zero_add]
                                      show w.cell? ⟨b, j, none⟩ = some u
                                      simp [World.cell?, r1, hj])
                                    rw [List.length_take, Array.length_toList, Nat.min_eq_left hcl] at this
                                    rw [hisz]
                                    simp only [Builtin.firstCells]
                                    exact this
                                  have hrun := hsrc'.grow ty z hz (some ⟨b, 0, none⟩) len (κ - 0) (c.toList.take (len * sz)) hold (by omega) (by omega) (growslice_fits (by omega) v1)
                                  have hle' : σ.le (σ.set h.next w.heap.size (grownCap w (len + m) (κ - 0) el)) := Sg.set_le _ _ (hr.fresh _ (Nat.le_refl _)).1
                                  refine ⟨_, _, σ.set h.next w.heap.size (grownCap w (len + m) (κ - 0) el), hrun, ?_, ?_⟩
                                  · have := VR.loose (σ := σ.set h.next w.heap.size (grownCap w (len + m) (κ - 0) el)) (k := h.next) (b := w.heap.size) (κ := grownCap w (len + m) (κ - 0) el) (o := 0) (d := 0) (n := len + m) (Sg.set_same _ _ _ _) (by omega)
                                    simpa using this
                                  · rw [n2]
                                    -- first the new block, then the old one dies
                                    have hp1' : ∀ j, j ≠ h.next → (fun j => if j = h.next then some (AO.row ((len + m) * sz) c' df el (some sz) true) else h.heap.get j) j = h.heap.get j := fun j hj => if_neg hj
                                    have hlen2 : (c.toList.take (len * sz) ++ us).length = (len + m) * sz := by
                                      rw [List.length_append, List.length_take, Array.length_toList, Nat.min_eq_left (by omega), hul, Nat.add_mul]
                                    have st := hr.newB (o := .row ((len + m) * sz) c' df el (some sz) true) (κ := grownCap w (len + m) (κ - 0) el) (w' := w.drew.alloc (.cells ((c.toList.take (len * sz) ++ us).toArray ++ Builtin.zeroCells z.cells (grownCap w (len + m) (κ - 0) el - (len + m))) el)) rfl rfl rfl rfl (by
                                      refine ⟨_, (0, 0), rfl, ?_, fun j hj => ?_, fun q hq => ?_, fun _ j _ => by simp, fun hq => by cases hq⟩
                                      · rw [Array.size_append, List.size_toArray, hlen2]; omega
                                      · have hin : ((c.toList.take (len * sz) ++ us).toArray ++ Builtin.zeroCells z.cells (grownCap w (len + m) (κ - 0) el - (len + m)))[j]? = (c.toList.take (len * sz) ++ us)[j]? := by
                                          rw [Array.getElem?_append, List.size_toArray, hlen2, if_pos hj]
                                          simp
                                        obtain ⟨x1, x2⟩ := hcell j hj
                                        rw [hin, List.getElem?_append, List.length_take, Array.length_toList, Nat.min_eq_left (by omega)]
                                        by_cases hjl : j < len * sz
                                        · rw [if_pos hjl, x2 hjl, List.getElem?_take, if_pos hjl, Array.getElem?_toList]
                                          obtain ⟨u, y1, y2⟩ := r3 j (by omega)
                                          exact ⟨u, y1, y2.mono hle'⟩
                                        · rw [if_neg hjl]
                                          obtain ⟨u0, y1, y2⟩ := x1 (by omega)
                                          rw [y2]
                                          obtain ⟨u, z1, z2⟩ := hus.get y1
                                          exact ⟨u, z1, z2.mono hle'⟩
                                      · injection hq with hq; subst hq
                                        have hzs : z.cells.size = sz := by rw [← v3, ← vcells_eq]; simp
                                        rw [Array.size_append, List.size_toArray, hlen2, size_zeroCells, hzs, ← Nat.add_mul]
                                        congr 1
                                        omega) (hp' := fun j => if j = h.next then some (AO.row ((len + m) * sz) c' df el (some sz) true) else h.heap.get j) (if_pos rfl) hp1'
                                    have hr2 := st.hr
                                    refine ⟨st.os, st.tape, st.output, st.size, st.old, fun j oj c κj g1 g2 g3 => ?_, st.keep, fun j hj hn => ?_, fun j oj hj => ?_, st.nxle, ⟨fun j oj g1 g2 => ?_, fun j j' oj oj' c κj κj' g1 g2 g3 g4 g5 g6 => ?_, fun j hj => ?_, hr2.base, hr2.glob⟩⟩
                                    · have hjk : j ≠ k := by rintro rfl; rw [hp0] at g1; injection g1 with g1; subst g1; cases g2
                                      refine st.img j oj c κj ?_ g2 g3
                                      by_cases hjn : j = h.next
                                      · subst hjn; rw [n3] at g1; simp only [if_pos]; exact g1
                                      · rw [hp2 j hjk hjn] at g1; simp only [if_neg hjn]; exact g1
                                    · have hjk : j ≠ k := by rintro rfl; rw [hk] at hn; cases hn
                                      rw [hp2 j hjk (by omega)]; exact hn
                                    · by_cases hjk : j = k
                                      · subst hjk; exact ⟨_, hp0⟩
                                      · by_cases hjn : j = h.next
                                        · subst hjn; exact ⟨_, n3⟩
                                        · rw [hp2 j hjk hjn]; exact ⟨oj, hj⟩
                                    · have hjk : j ≠ k := by rintro rfl; rw [hp0] at g1; injection g1 with g1; subst g1; cases g2
                                      refine hr2.live j oj ?_ g2
                                      by_cases hjn : j = h.next
                                      · subst hjn; rw [n3] at g1; simp only [if_pos]; exact g1
                                      · rw [hp2 j hjk hjn] at g1; simp only [if_neg hjn]; exact g1
                                    · have key : ∀ q oq, h2.heap.get q = some oq → oq.isDead = false → (if q = h.next then some (AO.row ((len + m) * sz) c' df el (some sz) true) else h.heap.get q) = some oq := fun q oq f1 f2 => by
                                        have hqk : q ≠ k := by rintro rfl; rw [hp0] at f1; injection f1 with f1; subst f1; cases f2
                                        by_cases hqn : q = h.next
                                        · subst hqn; rw [n3] at f1; rw [if_pos rfl]; exact f1
                                        · rw [hp2 q hqk hqn] at f1; rw [if_neg hqn]; exact f1
                                      exact hr2.inj j j' oj oj' c κj κj' (key j oj g1 g2) g2 (key j' oj' g3 g4) g4 g5 g6
                                    · have f1 := hr2.fresh j hj
                                      have hjn : j ≠ h.next := by omega
                                      have hjk : j ≠ k := by
                                        rintro rfl
                                        have := (hr.fresh j (by omega)).1
                                        rw [hσ] at this; cases this
                                      exact ⟨f1.1, by rw [hp2 j hjk hjn]; have := f1.2; simp only [if_neg hjn] at this; exact this⟩
                              · cases ha
                            · cases ha
                          · cases ha
                      · cases ha
                    · cases ha
            · cases ha
        · rename_i k off d len
          cases hb : Nat.beq m 0 with
          | false => rw [hb] at ha; cases ha
          | true =>
            rw [hb] at ha
            simp only [cond_true, Option.some.injEq, Prod.mk.injEq] at ha
            obtain ⟨rfl, rfl⟩ := ha
            have key : ∃ b o c', s' = .slice (some ⟨b, o, none⟩) len c' ∧ len ≤ c' := by
              cases hs with
              | atom h => simp [flatN] at h
              | void h => exact ⟨_, _, _, rfl, Nat.zero_le _⟩
            obtain ⟨b, o, c', rfl, hle⟩ := key
            exact ⟨_, w, σ, nothing (beq_of hb) _ len c' hle, hs, Step.refl hr⟩
        · cases ha
      · cases ha
    · cases ha
  · cases ha
end
end Go.Proofs.YtflnpcgnenhogaaGreatDoor.ev

namespace Go.Proofs.YtflnpcgnenhogaaGreatDoor.ev
open Go Go.RowKit

section
variable {B : Nat} {P : Program} {σ : Sg} {h : H} {w : World}

theorem lenOf_run {x x' : Value} {m : Nat} (hm : lenOfA x = some m) (hx : VR σ x x') (w : World) : (Builtin.lenOf x').run P w = .ok m w := by
 unfold lenOfA at hm
 split at hm
 ·rename_i a0 n0 c0
  injection hm with hm; subst hm
  have key : ∃ a' c', x' = .slice a' n0 c' := by
   cases hx with
   | atom h => exact ⟨_, _, rfl⟩
   | slice h => exact ⟨_, _, rfl⟩
   | loose h h' => exact ⟨_, _, rfl⟩
   | void h => exact ⟨_, _, rfl⟩
  obtain ⟨a', c', rfl⟩ := key
  rfl
 ·injection hm with hm; subst hm
  have e := hx.atom_inv rfl
  subst e
  rfl
 ·cases hm

theorem copyA_sound (hr : HR B σ h.heap.get h.next w) {t tx ty : TypeId} {d x d' x' v : Value} {h' : H} (hd : VR σ d d') (hx : VR σ x x') (hs : copyA P h t d x = some (v, h')) :
  ∃ u w', (Builtin.copy_ #[t, tx] ty #[d', x']).run P w = .ok u w' ∧ VR σ v u ∧ Step B σ h.heap.get h.next w σ h'.heap.get h'.next w' := by
 unfold copyA at hs
 split at hs
 ·rename_i e b len c m hu hm
  split at hs
  ·rename_i sz hsz
   cases ho : strOk sz x with
   | false => rw [ho] at hs; cases hs
   | true =>
    rw [ho] at hs
    simp only [cond_true] at hs
    split at hs
    ·rename_i new hn
     obtain ⟨us, h1, h2, h3⟩ := firstA_sound (P := P) hr hx hn ⟨m, hm, Nat.min_le_left _ _⟩ (fun s hs => by subst hs; exact beq_of ho)
     have hlen := lenOf_run (P := P) hm hx w
     split at hs
     ·rename_i k off sp
      split at hs
      ·rename_i h1' hw
       simp only [Option.some.injEq, Prod.mk.injEq] at hs
       obtain ⟨rfl, rfl⟩ := hs
       obtain ⟨b', κ, o, c', hσ, rfl, hoo⟩ := hd.any_slice
       obtain ⟨g1, g2, g3, g4⟩ := writeN_sound hr hw hσ h1
       refine ⟨.int .i64 (Nat.min m len), w.setCells b' off us, ?_, .atom rfl, g4⟩
       by_cases h0 : len = 0
       ·subst h0
        have hus : us = [] := List.eq_nil_of_length_eq_zero (by rw [h2]; simp)
        subst hus
        have h3' : (Builtin.firstCells sz 0 x').run P w = .ok #[] w := by have := h3 w rfl; rwa [show Nat.min m 0 = 0 from Nat.min_zero m] at this
        simp [Builtin.copy_, run_underlying hu, hlen, szOf_run hsz, h3', storeCells, World.setCells, goInt]
       ·have := hoo (by omega)
        subst this
        have hst := run_storeCells_cells (P := P) b' o us 0 w (by simpa using g1) (by simpa using g2) g3
        simp only [Nat.add_zero] at hst
        simp [Builtin.copy_, run_underlying hu, hlen, szOf_run hsz, h3 w rfl, hst, goInt]
      ·cases hs
     ·simp only [Option.some.injEq, Prod.mk.injEq] at hs
      obtain ⟨rfl, rfl⟩ := hs
      have e0 := hd.atom_inv rfl
      subst e0
      exact ⟨.int .i64 (Nat.min m len), w, by simp [Builtin.copy_, run_underlying hu, hlen, szOf_run hsz, h3 w rfl, goInt], .atom rfl, Step.refl hr⟩
    ·cases hs
  ·cases hs
 ·cases hs

/-! ### maps -/
theorem ER.findAt {d : TypeDesc} {k : Value} : ∀ {es : List MapEntry} (i j : Nat) (v : Value), Instr.findNow d k es i = some (some (j, v)) → i ≤ j ∧ ∃ e, es[j - i]? = some e ∧ Instr.sameNow d k e.key = some true
 | [], i, j, v, h => by simp [Instr.findNow] at h
 | e :: es, i, j, v, h => by
  simp only [Instr.findNow] at h
  cases hq : Instr.sameNow d k e.key with
  | none => rw [hq] at h; cases h
  | some b =>
   rw [hq] at h
   cases b with
   | true =>
    simp only [Option.some.injEq, Prod.mk.injEq] at h
    obtain ⟨rfl, _⟩ := h
    exact ⟨Nat.le_refl _, e, by simp, hq⟩
   | false =>
    simp only at h
    obtain ⟨a1, x, a2, a3⟩ := ER.findAt (i + 1) j v h
    exact ⟨by omega, x, by rw [show j - i = (j - (i + 1)) + 1 by omega]; simpa using a2, a3⟩
theorem bytes_eq {a b : ByteArray} (h : (a == b) = true) : a = b := by
 have h' : (a.data == b.data) = true := h
 have := eq_of_beq h'
 cases a; cases b; simp at this; rw [this]
theorem bytes_refl (a : ByteArray) : (a == a) = true := by
 show (a.data == a.data) = true
 simp
theorem sameBits_of {d : TypeDesc} {k x : Value} (h : Instr.sameNow d k x = some true) (n : Nat) : Instr.sameBits n x k = true := by
 unfold Instr.sameNow at h
 split at h
 ·split at h
  ·rename_i hk
   injection h with h
   simp only [beq_iff_eq] at h
   subst hk; subst h
   cases n <;> simp [Instr.sameBits]
  ·cases h
 ·rename_i a b
  injection h with h
  have := bytes_eq h
  subst this
  cases n <;> simp [Instr.sameBits, bytes_refl]
 ·injection h with h
  have := eq_of_beq h
  subst this
  cases n <;> simp [Instr.sameBits]
 ·cases h
theorem ER.setv {k v u : Value} (hk : flatN 0 k = true) (hv : VR σ v u) : ∀ {es es' : List MapEntry} (i : Nat), ER σ es es' → ER σ (setVal es i k v) (es'.modify i fun e => { e with key := k, val := u })
 | [], [], i, he => by cases i <;> exact he
 | [], _ :: _, _, he => by have := he.1; simp at this
 | _ :: _, [], _, he => by have := he.1; simp at this
 | e :: es, e' :: es', 0, he => by
  obtain ⟨a1, a2, a3, a4⟩ := he.2 0 e e' rfl rfl
  refine ⟨by have := he.1; simpa [setVal] using this, fun i x x' h1 h2 => ?_⟩
  cases i with
  | zero => simp [setVal] at h1 h2; subst h1; subst h2; exact ⟨hk, rfl, a3, hv⟩
  | succ i => exact he.2 (i + 1) x x' (by simpa [setVal] using h1) (by simpa using h2)
 | e :: es, e' :: es', i + 1, he => by
  have he' : ER σ es es' := ⟨by have := he.1; simpa using this, fun j x x' h1 h2 => he.2 (j + 1) x x' (by simpa using h1) (by simpa using h2)⟩
  have ih := ER.setv hk hv i he'
  refine ⟨by have := ih.1; simp [setVal] at this ⊢; exact this, fun j x x' h1 h2 => ?_⟩
  cases j with
  | zero => exact he.2 0 x x' (by simpa [setVal] using h1) (by simpa using h2)
  | succ j => exact ih.2 j x x' (by simpa [setVal] using h1) (by simpa using h2)
theorem ER.push {es es' : List MapEntry} (he : ER σ es es') {k v u : Value} (hk : flatN 0 k = true) (hv : VR σ v u) (c : Nat) : ER σ (es ++ [{ key := k, val := v, born := c }]) (es' ++ [{ key := k, val := u, born := c }]) := by
 refine ⟨by simp [he.1], fun i x x' h1 h2 => ?_⟩
 rw [List.getElem?_append] at h1 h2
 rw [← he.1] at h2
 by_cases hi : i < es.length
 ·rw [if_pos hi] at h1 h2; exact he.2 i x x' h1 h2
 ·rw [if_neg hi] at h1 h2
  cases hq : i - es.length with
  | zero => rw [hq] at h1 h2; simp at h1 h2; subst h1; subst h2; exact ⟨hk, rfl, rfl, hv⟩
  | succ n => rw [hq] at h1; simp at h1
theorem ER.erase {es es' : List MapEntry} (he : ER σ es es') (i : Nat) : ER σ (es.eraseIdx i) (es'.eraseIdx i) := by
 refine ⟨by rw [List.length_eraseIdx, List.length_eraseIdx, he.1], fun j x x' h1 h2 => ?_⟩
 rw [List.getElem?_eraseIdx] at h1 h2
 by_cases hj : j < i
 ·rw [if_pos hj] at h1 h2; exact he.2 j x x' h1 h2
 ·rw [if_neg hj] at h1 h2; exact he.2 (j + 1) x x' h1 h2

theorem setMap_run {b : Nat} {es : Array MapEntry} {clock : Nat} (hb : w.heap[b]? = some (.map es clock)) (o : Obj) : (setObj b o).run P w = .ok () { w with heap := w.heap.setIfInBounds b o } := by simp [setObj, Sem.run, hb]
theorem HR.putMap (hr : HR B σ h.heap.get h.next w) {k : Nat} {es es2 : List MapEntry} {c c2 : Nat} (hk : h.heap.get k = some (.map es c)) {b κ : Nat} (hs : σ k = some (b, κ)) {es' : Array MapEntry} (he : ER σ es2 es'.toList) {h' : H} (hh : h.set k (.map es2 c2) = some h') :
  Step B σ h.heap.get h.next w σ h'.heap.get h'.next { w with heap := w.heap.setIfInBounds b (.map es' c2) } := by
 obtain ⟨e1, e2, e3⟩ := H.set_inv hh
 have hlt := hr.lt_of hk rfl hs
 rw [e1]
 exact hr.write (o' := .map es2 c2) (ob' := .map es' c2) (w' := { w with heap := w.heap.setIfInBounds b (.map es' c2) }) hk rfl rfl hs rfl rfl rfl (by simp) (by simp [hlt]) (fun x hx => by simp [Array.getElem?_setIfInBounds_ne (Ne.symm hx)]) ⟨es', rfl, he⟩ e2 e3

theorem mapUpdateA_sound (hr : HR B σ h.heap.get h.next w) {t : TypeId} {m k v m' k' v' : Value} {h' : H} (hm : VR σ m m') (hk : VR σ k k') (hv : VR σ v v') (hs : mapUpdateA P h t m k v = some h') :
  ∃ w', (Instr.mapUpdate t m' k' v').run P w = .ok () w' ∧ Step B σ h.heap.get h.next w σ h'.heap.get h'.next w' := by
 unfold mapUpdateA at hs
 split at hs
 ·rename_i kt et r hu
  cases hp : plainKey P kt && flatN 0 k with
  | false => rw [hp] at hs; cases hs
  | true =>
   rw [hp] at hs
   simp only [cond_true] at hs
   simp only [Bool.and_eq_true] at hp
   obtain ⟨hp, hf⟩ := hp
   have e := hk.flat 0 hf
   subst e
   obtain ⟨b, κ, hσ, rfl⟩ := hm.map_inv
   split at hs
   ·rename_i es clock hh
    obtain ⟨es', g1, g2⟩ := hr.mapAt hh hσ
    split at hs
    ·rename_i i u0 hno
     obtain ⟨u, c1, c2, c3⟩ := (keyNo_run (w := w) g2 hno).2 i u0 rfl
     have hat : ∃ e, es[i]? = some e ∧ Instr.sameBits 10000 e.key k' = true := by
      unfold keyNo at hno
      split at hno
      ·rename_i d hd
       obtain ⟨_, x, a2, a3⟩ := ER.findAt 0 i u0 hno
       exact ⟨x, by simpa using a2, sameBits_of a3 _⟩
      ·cases hno
     obtain ⟨x, x1, x2⟩ := hat
     have hx' : ∃ y, es'[i]? = some y ∧ y.key = x.key := by
      have hlt : i < es'.size := by have := g2.1; simp at this; omega
      refine ⟨es'[i], Array.getElem?_eq_getElem hlt, ?_⟩
      exact (g2.2 i x es'[i] x1 (by simp [hlt])).2.1
     obtain ⟨y, y1, y2⟩ := hx'
     have hstay : ∀ w : World, (Instr.keyThatStays ((es'[i]?.map (·.key)).getD k') k').run P w = .ok k' w := fun w => by
      rw [y1]
      simp [Instr.keyThatStays, y2, x2]
     refine ⟨_, ?_, hr.putMap hh hσ (es' := es'.modify i fun e => { e with key := k', val := v' }) (by
      have := ER.setv hf hv i g2
      simpa using this) hs⟩
     simp [Instr.mapUpdate, run_underlying hu, getMap_run g1, checkKey_run hp, c1, hstay, setMap_run g1]
    ·rename_i hno
     have c1 := (keyNo_run (w := w) g2 hno).1 rfl
     refine ⟨_, ?_, hr.putMap hh hσ (es' := es'.push { key := k', val := v', born := clock }) (by
      have := g2.push hf hv clock
      simpa using this) hs⟩
     simp [Instr.mapUpdate, run_underlying hu, getMap_run g1, checkKey_run hp, c1, setMap_run g1]
    ·cases hs
   ·cases hs
 ·cases hs

theorem deleteA_sound (hr : HR B σ h.heap.get h.next w) {t tk ty : TypeId} {m k m' k' : Value} {h' : H} (hm : VR σ m m') (hk : VR σ k k') (hs : deleteA P h t m k = some h') :
  ∃ w', (Builtin.delete_ #[t, tk] ty #[m', k']).run P w = .ok (.tuple #[]) w' ∧ Step B σ h.heap.get h.next w σ h'.heap.get h'.next w' := by
 unfold deleteA at hs
 split at hs
 ·rename_i kt et hu
  cases hp : plainKey P kt && flatN 0 k with
  | false => rw [hp] at hs; cases hs
  | true =>
   rw [hp] at hs
   simp only [cond_true, Option.some.injEq] at hs
   subst hs
   simp only [Bool.and_eq_true] at hp
   have e := hm.atom_inv rfl
   subst e
   exact ⟨w, by simp [Builtin.delete_, run_underlying hu, checkKey_run hp.1], Step.refl hr⟩
 ·rename_i kt et r hu
  cases hp : plainKey P kt && flatN 0 k with
  | false => rw [hp] at hs; cases hs
  | true =>
   rw [hp] at hs
   simp only [cond_true] at hs
   simp only [Bool.and_eq_true] at hp
   obtain ⟨hp, hf⟩ := hp
   have e := hk.flat 0 hf
   subst e
   obtain ⟨b, κ, hσ, rfl⟩ := hm.map_inv
   split at hs
   ·rename_i es clock hh
    obtain ⟨es', g1, g2⟩ := hr.mapAt hh hσ
    split at hs
    ·rename_i i u0 hno
     obtain ⟨u, c1, c2, c3⟩ := (keyNo_run (w := w) g2 hno).2 i u0 rfl
     refine ⟨_, ?_, hr.putMap hh hσ (es' := es'.eraseIdxIfInBounds i) (by
      have hlt : i < es'.size := by have := g2.1; simp at this; omega
      have := g2.erase i
      simpa [Array.eraseIdxIfInBounds, hlt] using this) hs⟩
     simp [Builtin.delete_, run_underlying hu, getMap_run g1, checkKey_run hp, c1, setMap_run g1]
    ·rename_i hno
     simp only [Option.some.injEq] at hs
     subst hs
     have c1 := (keyNo_run (w := w) g2 hno).1 rfl
     have hlt := hr.lt_of hh rfl hσ
     refine ⟨{ w with heap := w.heap.setIfInBounds b (.map es' clock) }, ?_, ?_⟩
     ·simp [Builtin.delete_, run_underlying hu, getMap_run g1, checkKey_run hp, c1, setMap_run g1]
     ·exact hr.write (o' := .map es clock) (ob' := .map es' clock) (w' := { w with heap := w.heap.setIfInBounds b (.map es' clock) }) hh rfl rfl hσ rfl rfl rfl (by simp) (by simp [hlt]) (fun x hx => by simp [Array.getElem?_setIfInBounds_ne (Ne.symm hx)]) ⟨es', rfl, g2⟩ hh (fun _ _ => rfl)
    ·cases hs
   ·cases hs
 ·cases hs
end
end Go.Proofs.YtflnpcgnenhogaaGreatDoor.ev
