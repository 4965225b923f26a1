/- Own lemmas, laid together. -/
import Derived.Test.YtflnpcgnenhogaaDoorLe1
import Derived.Deep.Upon
import Derived.Lib.AppendZerosOnto
import Derived.RangeFuncRecord
import Derived.RangeFuncNested
import Derived.OrdersIn
import Derived.LoopNIn
namespace Go.Proofs.YtflnpcgnenhogaaDoor.ev
open Go Go.RowKit

section
variable {B : Nat} {P : Program} {σ : Sg} {h : H} {nx : Nat} {w : World}

theorem partsA_sound {g : Nat → Value} {a : Act} : ∀ {xs : List (Nat × Operand)} {vs : List (Nat × Value)}, (∀ x ∈ xs, VO σ g a x.2) → partsA g xs = some vs →
    vs.length = (xs.map fun x => (x.1, a.eval x.2)).length ∧ ∀ (i : Nat) (p p' : Nat × Value), vs[i]? = some p → (xs.map fun x => (x.1, a.eval x.2))[i]? = some p' → p.1 = p'.1 ∧ VR σ p.2 p'.2
  | [], vs, _, h => by simp only [partsA, Option.some.injEq] at h; subst h; exact ⟨rfl, fun i p p' h => by simp at h⟩
  | (n, x) :: xs, vs, hx, h => by
    simp only [partsA] at h
    cases h1 : opv g x with
    | none => rw [h1] at h; cases h
    | some v =>
      cases h2 : partsA g xs with
      | none => rw [h1, h2] at h; cases h
      | some vs' =>
        rw [h1, h2] at h; injection h with h; subst h
        obtain ⟨a1, a2⟩ := partsA_sound (fun y hy => hx y (by simp [hy])) h2
        refine ⟨by simpa using a1, fun i p p' g1 g2 => ?_⟩
        cases i with
        | zero => simp at g1 g2; subst g1; subst g2; exact ⟨rfl, hx (n, x) (by simp) v h1⟩
        | succ i => exact a2 i p p' (by simpa using g1) (by simpa using g2)

theorem placesA_eq : ∀ {fs : List Field} {pl : List (Nat × Nat)}, placesA P fs = some pl → fs.mapM (fun f => (P.info? f.type).map fun i => (f.offset, i.size)) = some pl
  | [], pl, h => by simp only [placesA, Option.some.injEq] at h; subst h; rfl
  | f :: fs, pl, h => by
    simp only [placesA, szOf] at h
    cases hi : P.info? f.type with
    | none => rw [hi] at h; cases h
    | some i =>
      cases hr : placesA P fs with
      | none => rw [hi, hr] at h; cases h
      | some r =>
        rw [hi, hr] at h; injection h with h; subst h
        simp [List.mapM_cons, hi, placesA_eq hr]

theorem buildA_sound {t : TypeId} {parts parts' : List (Nat × Value)} {v : Value} (hl : parts.length = parts'.length) (hp : ∀ (i : Nat) (p p' : Nat × Value), parts[i]? = some p → parts'[i]? = some p' → p.1 = p'.1 ∧ VR σ p.2 p'.2)
    (hs : buildA P t parts = some v) : ∃ u, (Instr.build t parts'.toArray).run P w = .ok u w ∧ VR σ v u := by
  unfold buildA at hs
  split at hs
  · rename_i z fs hz hu
    cases hf : flatN 6 z with
    | false => rw [hf] at hs; cases hs
    | true =>
      rw [hf] at hs
      simp only [cond_true] at hs
      split at hs
      · rename_i pl hpl
        split at hs
        · rename_i l hfi
          injection hs with hs; subst hs
          obtain ⟨l', g1, g2⟩ := fillA_sound (σ := σ) (pl' := fun i => pl[i]?) (fun i x hx => hx) (cs' := z.cells) (by rw [vcells_eq]; exact (VR.same 6 _ hf).cells) hl hp hfi
          unfold zeroOf at hz
          cases hi : P.info? t with
          | none => rw [hi] at hz; cases hz
          | some it =>
            rw [hi] at hz
            simp only at hz
            refine ⟨.agg l', run_build w t _ l' ?_, ?_⟩
            · unfold Program.built
              simp [hi, hu, hz, placesA_eq hpl, g1]
            · have := g2.agg
              simpa using this
        · cases hs
      · cases hs
  · rename_i z n e hz hu
    cases hf : flatN 6 z with
    | false => rw [hf] at hs; cases hs
    | true =>
      rw [hf] at hs
      simp only [cond_true] at hs
      split at hs
      · rename_i sz hsz
        split at hs
        · rename_i l hfi
          injection hs with hs; subst hs
          obtain ⟨l', g1, g2⟩ := fillA_sound (σ := σ) (pl' := fun i => some (i * sz, sz)) (fun i x hx => hx) (cs' := z.cells) (by rw [vcells_eq]; exact (VR.same 6 _ hf).cells) hl hp hfi
          unfold zeroOf at hz
          cases hi : P.info? t with
          | none => rw [hi] at hz; cases hz
          | some it =>
            rw [hi] at hz
            simp only at hz
            unfold szOf at hsz
            cases hie : P.info? e with
            | none => rw [hie] at hsz; cases hsz
            | some ie =>
              rw [hie] at hsz
              injection hsz with hsz
              subst hsz
              refine ⟨.agg l', run_build w t _ l' ?_, ?_⟩
              · unfold Program.built
                simp [hi, hu, hz, hie, g1]
              · have := g2.agg
                simpa using this
        · cases hs
      · cases hs
  · cases hs

theorem optV_sound {g : Nat → Value} {a : Act} {x : Option Operand} {v : Option Value} (hx : ∀ y, x = some y → VO σ g a y) (h : optV g x = some v) : OV σ v (x.map a.eval) := by
  cases x with
  | none => simp only [optV, Option.some.injEq] at h; subst h; exact ⟨rfl, fun v u h => by cases h⟩
  | some y =>
    simp only [optV] at h
    split at h
    · rename_i u hu
      injection h with h; subst h
      exact ⟨rfl, fun v' u' h1 h2 => by injection h1 with h1; subst h1; injection h2 with h2; subst h2; exact hx y rfl _ hu⟩
    · cases h

theorem methodA_inv {t : TypeId} {name : String} {g : FuncId} (h : methodA P t name = some g) :
    ∃ i m pr, P.info? t = some i ∧ i.methods.find? (·.name == name) = some m ∧ m.path.toList = [] ∧ m.func = some (g, pr) ∧ ∃ d, P.underlying t = some d ∧ ((∃ e, d = .pointer e ∧ pr = true) ∨ ((∀ e, d ≠ .pointer e) ∧ pr = false)) := by
  unfold methodA at h
  split at h
  · rename_i i hi
    split at h
    · rename_i m hm
      split at h
      · rename_i g' pr hp hf
        split at h
        · rename_i e hu
          injection h with h; subst h
          exact ⟨i, m, true, hi, hm, hp, hf, _, hu, .inl ⟨e, rfl, rfl⟩⟩
        · cases h
        · rename_i d hne hu
          injection h with h; subst h
          exact ⟨i, m, false, hi, hm, hp, hf, d, hu, .inr ⟨fun e he => by subst he; exact hne e rfl, rfl⟩⟩
        · cases h
      · cases h
    · cases h
  · cases h
theorem method_run {t : TypeId} {name : String} {g : FuncId} (h : methodA P t name = some g) (n : Nat) (v : Value) : (method (n + 1) t v name).run P w = .ok (g, v) w := by
  obtain ⟨i, m, pr, h1, h2, h3, h4, d, h5, h6⟩ := methodA_inv h
  have h7 : m.path = #[] := by simpa using h3
  rcases h6 with ⟨e, rfl, rfl⟩ | ⟨hne, rfl⟩
  · simp [method, typeInfo, h1, h2, h7, follow, h4, receiverAt, run_underlying h5, Place.get]
  · cases d <;> first
      | (simp [method, typeInfo, h1, h2, h7, follow, h4, receiverAt, run_underlying h5, Place.get]; done)
      | (exact absurd rfl (hne _))
theorem nilAhead_run {t : TypeId} {name : String} {g : FuncId} (h : methodA P t name = some g) (n : Nat) (v : Value) : (nilAhead (n + 1) t v name).run P w = .ok (some false) w := by
  obtain ⟨i, m, pr, h1, h2, h3, h4, d, h5, h6⟩ := methodA_inv h
  have h7 : m.path = #[] := by simpa using h3
  rcases h6 with ⟨e, rfl, rfl⟩ | ⟨hne, rfl⟩
  · simp [nilAhead, typeInfo, h1, h2, h7, followBlind, h4]
  · cases d <;> first
      | (simp [nilAhead, typeInfo, h1, h2, h7, followBlind, h4, run_underlying h5]; done)
      | (exact absurd rfl (hne _))


theorem xq_sound (hr : HR B σ h.heap.get nx w) {o : Oper} {g : Nat → Value} {a : Act} {v : Value} (hg : ∀ x ∈ o.op.operands.toList, VO σ g a x) (hx : xq P o g h = some v) :
    ∃ u, (execOp a.eval o).run P w = .ok (.value u) w ∧ VR σ v u := by
  obtain ⟨dst, op, type, pos, after, guard⟩ := o
  unfold xq stX at hx
  simp only at hg hx
  split at hx <;> dsimp only at hx
  · exact ⟨_, rfl, hg _ (by simp [Op.operands]) _ hx⟩
  · exact ⟨_, rfl, hg _ (by simp [Op.operands]) _ hx⟩
  · rename_i c x y
    split at hx
    · rename_i t hc
      have h1 := (hg c (by simp [Op.operands]) _ hc).atom_inv rfl
      cases t with
      | true => exact ⟨a.eval x, by simp [execOp, h1, asBool], hg x (by simp [Op.operands]) _ hx⟩
      | false => exact ⟨a.eval y, by simp [execOp, h1, asBool], hg y (by simp [Op.operands]) _ hx⟩
    · cases hx
  · rename_i t parts
    split at hx
    · rename_i l hl
      obtain ⟨p1, p2⟩ := partsA_sound (fun x hx => hg x.2 (by
        simp only [Op.operands]
        simp only [List.mem_map]
        exact ⟨x, hx, rfl⟩)) hl
      obtain ⟨u, c1, c2⟩ := buildA_sound (w := w) p1 p2 hx
      refine ⟨u, ?_, c2⟩
      have e : (parts.map fun x => (x.1, a.eval x.2)) = (parts.toList.map fun x => (x.1, a.eval x.2)).toArray := by
        apply Array.ext'; simp
      simp only [execOp]
      rw [show (parts.map fun (i, x) => (i, a.eval x)) = (parts.map fun x => (x.1, a.eval x.2)) from rfl, e]
      simp [c1]
    · cases hx
  · rename_i t x
    split at hx
    · rename_i p hp
      obtain ⟨u, c1, c2⟩ := loadA_sound (P := P) hr hx (hg x (by simp [Op.operands]) _ hp)
      exact ⟨u, by simp [execOp, c1], c2⟩
    · cases hx
  · rename_i x
    have hgx := hg x (by simp [Op.operands])
    split at hx
    · rename_i p hp
      injection hx with hx; subst hx
      have h1 := hgx _ hp
      obtain ⟨a', e1, e2⟩ := isNone_ptr h1 rfl
      obtain ⟨q, rfl⟩ := some_of e2
      exact ⟨_, by simp [execOp, e1], e1 ▸ h1⟩
    · rename_i i c d hp
      injection hx with hx; subst hx
      have h1 := hgx _ hp
      obtain ⟨ds, ds', e1, _⟩ := h1.func_inv rfl
      exact ⟨_, by simp [execOp, e1], e1 ▸ h1⟩
    · rename_i name c d hp
      split at hx
      · rename_i t v0 rest hl
        split at hx
        · rename_i i hm
          injection hx with hx; subst hx
          have h1 := hgx _ hp
          obtain ⟨ds, ds', e1, e2, e3⟩ := h1.func_inv rfl
          rw [hl] at e2
          obtain ⟨u0, us, e4, e5, e6⟩ := e2.cons_inv
          obtain ⟨y, rfl, _⟩ := e5.iface_inv
          have e7 : ds[0]? = some (.iface t y) := by rw [← Array.getElem?_toList, e4]; rfl
          refine ⟨.func (.method name) ds ds', ?_, by rw [← e1]; exact h1⟩
          have e8 : ∀ w : World, (nilAhead (P.types.size + Made.depth) t y name).run P w = .ok (some false) w := fun w => nilAhead_run hm (P.types.size + 99) y
          simp [execOp, e1, e7, e8]
        · cases hx
      · cases hx
    · rename_i k c d hp
      injection hx with hx; subst hx
      have h1 := hgx _ hp
      obtain ⟨b, κ, _, e1⟩ := h1.yield_inv
      refine ⟨.func (.yield b) #[] #[], by simp [execOp, e1], ?_⟩
      rw [← e1]; exact h1
    · rename_i t v0 hp
      injection hx with hx; subst hx
      have h1 := hgx _ hp
      obtain ⟨y, e1, _⟩ := h1.iface_inv
      exact ⟨_, by simp [execOp, e1], e1 ▸ h1⟩
    · cases hx
  · rename_i op t x y t2
    split at hx
    · rename_i p q hp hq
      obtain ⟨u, c1, c2⟩ := binA_sound (w := w) (hg x (by simp [Op.operands]) _ hp) (hg y (by simp [Op.operands]) _ hq) hx
      refine ⟨u, ?_, c2⟩
      simp only [execOp]
      rw [Sem.run_bind, c1]; rfl
    · cases hx
  · rename_i op t x
    split at hx
    · rename_i p hp
      cases hf : flatN 1 p with
      | false => rw [hf] at hx; cases hx
      | true =>
        rw [hf] at hx
        simp only [cond_true] at hx
        split at hx
        · rename_i v' hv
          cases hf2 : flatN 1 v' with
          | false => rw [hf2] at hx; cases hx
          | true =>
            rw [hf2] at hx
            simp only [cond_true, Option.some.injEq] at hx
            subst hx
            have e := (hg x (by simp [Op.operands]) _ hp).flat 1 hf
            exact ⟨_, by simp [execOp, e, pureRun_run hv w], VR.same 1 _ hf2⟩
        · cases hx
    · cases hx
  · rename_i s d x
    split at hx
    · rename_i p hp
      obtain ⟨u, c1, c2⟩ := convertA_sound hr (hg x (by simp [Op.operands]) _ hp) hx
      exact ⟨u, by simp [execOp, c1], c2⟩
    · cases hx
  · rename_i fn first captured
    split at hx
    · rename_i i c d hc hd
      injection hx with hx; subst hx
      have h1 := opvs_sound (fun x hx => hg x (by simp [Op.operands]; exact .inl (by simpa using hx))) hc
      have h2 := opvs_sound (fun x hx => hg x (by simp [Op.operands]; exact .inr (by simpa using hx))) hd
      refine ⟨.func (.func i) (first.map a.eval) (captured.map a.eval), by simp [execOp, Instr.makeFunc], ?_⟩
      have e1 : first.map a.eval = (first.toList.map a.eval).toArray := by apply Array.ext'; simp
      have e2 : captured.map a.eval = (captured.toList.map a.eval).toArray := by apply Array.ext'; simp
      rw [e1, e2]
      exact .func rfl (by simpa using h1.1) (fun j v u g1 g2 => h1.2 j v u (by simpa using g1) (by simpa using g2)) (by simpa using h2.1) (fun j v u g1 g2 => h2.2 j v u (by simpa using g1) (by simpa using g2))
    · rename_i name c d hc hd
      injection hx with hx; subst hx
      have h1 := opvs_sound (fun x hx => hg x (by simp [Op.operands]; exact .inl (by simpa using hx))) hc
      have h2 := opvs_sound (fun x hx => hg x (by simp [Op.operands]; exact .inr (by simpa using hx))) hd
      refine ⟨.func (.method name) (first.map a.eval) (captured.map a.eval), by simp [execOp, Instr.makeFunc], ?_⟩
      have e1 : first.map a.eval = (first.toList.map a.eval).toArray := by apply Array.ext'; simp
      have e2 : captured.map a.eval = (captured.toList.map a.eval).toArray := by apply Array.ext'; simp
      rw [e1, e2]
      exact .func rfl (by simpa using h1.1) (fun j v u g1 g2 => h1.2 j v u (by simpa using g1) (by simpa using g2)) (by simpa using h2.1) (fun j v u g1 g2 => h2.2 j v u (by simpa using g1) (by simpa using g2))
    · cases hx
  · rename_i t x lo hi mx
    split at hx
    · rename_i p l r m hp hl hr' hm
      have h1 := optV_sound (fun y hy => hg y (by subst hy; simp [Op.operands])) hl
      have h2 := optV_sound (fun y hy => hg y (by subst hy; simp [Op.operands])) hr'
      have h3 := optV_sound (fun y hy => hg y (by subst hy; simp [Op.operands])) hm
      obtain ⟨u, c1, c2⟩ := sliceA_sound hr (hg x (by simp [Op.operands]) _ hp) h1 h2 h3 hx
      exact ⟨u, by simp [execOp, c1], c2⟩
    · cases hx
  · rename_i t x i
    split at hx
    · rename_i p hp
      obtain ⟨u, c1, c2⟩ := fieldAddrA_sound (w := w) (hg x (by simp [Op.operands]) _ hp) hx
      exact ⟨u, by simp [execOp, c1], c2⟩
    · cases hx
  · rename_i t x i
    split at hx
    · rename_i p hp
      obtain ⟨u, c1, c2⟩ := fieldA_sound (w := w) (hg x (by simp [Op.operands]) _ hp) hx
      exact ⟨u, by simp [execOp, c1], c2⟩
    · cases hx
  · rename_i t x i
    split at hx
    · rename_i p q hp hq
      obtain ⟨u, c1, c2⟩ := indexAddrA_sound (w := w) (hg x (by simp [Op.operands]) _ hp) (hg i (by simp [Op.operands]) _ hq) hx
      exact ⟨u, by simp [execOp, c1], c2⟩
    · cases hx
  · rename_i t x i
    split at hx
    · rename_i p q hp hq
      obtain ⟨u, c1, c2⟩ := indexA_sound (w := w) (hg x (by simp [Op.operands]) _ hp) (hg i (by simp [Op.operands]) _ hq) hx
      exact ⟨u, by simp [execOp, c1], c2⟩
    · cases hx
  · rename_i t x i ok
    split at hx
    · rename_i p q hp hq
      obtain ⟨u, c1, c2⟩ := lookupA_sound hr (hg x (by simp [Op.operands]) _ hp) (hg i (by simp [Op.operands]) _ hq) hx
      exact ⟨u, by simp [execOp, c1], c2⟩
    · cases hx
  · rename_i t x
    split at hx
    · cases hx
    · rename_i p d hne hp hu
      injection hx with hx; subst hx
      refine ⟨.iface t (a.eval x), ?_, .iface (hg x (by simp [Op.operands]) _ hp)⟩
      cases d <;> first
        | (simp [execOp, Instr.makeInterface, run_underlying hu]; done)
        | exact absurd rfl (hne _)
    · cases hx
  · rename_i x i
    split at hx
    · rename_i vs hp
      obtain ⟨ds, e1, e2⟩ := (hg x (by simp [Op.operands]) _ hp).tuple_inv
      obtain ⟨u, c1, c2⟩ := e2.get (by rw [Array.getElem?_toList]; exact hx)
      rw [Array.getElem?_toList] at c1
      exact ⟨u, by simp [execOp, Instr.extract, e1, c1], c2⟩
    · cases hx
  · rename_i c
    have hall : ∀ {args : List Value}, opvs g c.args.toList = some args → LR σ args (c.args.map a.eval).toList := fun h => by
      rw [show (c.args.map a.eval).toList = c.args.toList.map a.eval by simp]
      exact opvs_sound (fun x hx => hg x (by simp [Op.operands, Call.operands]; exact .inr (by simpa using hx))) h
    obtain ⟨callee, args0, argTypes⟩ := c
    simp only at hx hall
    split at hx
    · rename_i t x ht hv
      have h1 := hall hv
      obtain ⟨u, us, e1, e2, e3⟩ := h1.cons_inv
      have e4 := e3.nil_inv
      subst e4
      obtain ⟨r, c1, c2⟩ := lenA_sound (ty := type) hr e2 hx
      have e5 : args0.map a.eval = #[u] := by apply Array.ext'; rw [e1]
      have e6 : argTypes = #[t] := by apply Array.ext'; rw [ht]
      exact ⟨r, by simp [execOp, resolve, invoke, builtin, e5, e6, c1], c2⟩
    · rename_i t ao n c' ht hv
      have h1 := hall hv
      obtain ⟨u, us, e1, e2, e3⟩ := h1.cons_inv
      have e4 := e3.nil_inv
      subst e4
      have e5 : args0.map a.eval = #[u] := by apply Array.ext'; rw [e1]
      have e6 : argTypes = #[t] := by apply Array.ext'; rw [ht]
      split at hx
      · rename_i e hu
        injection hx with hx; subst hx
        have e7 := e2.atom_inv rfl
        subst e7
        exact ⟨.int .i64 c', by simp [execOp, resolve, invoke, builtin, e5, e6, Builtin.cap_, run_underlying hu, goInt], .atom rfl⟩
      · rename_i e k off hu
        cases hb : Nat.ble n c' with
        | false => rw [hb] at hx; cases hx
        | true =>
          rw [hb] at hx
          simp only [cond_true, Option.some.injEq] at hx
          subst hx
          obtain ⟨b, κ, hσ, rfl⟩ := e2.slice_inv
          exact ⟨.int .i64 c', by simp [execOp, resolve, invoke, builtin, e5, e6, Builtin.cap_, run_underlying hu, goInt], .atom rfl⟩
      · cases hx
    · rename_i args hv
      cases hf : args.all (flatN 1) with
      | false => rw [hf] at hx; cases hx
      | true =>
        rw [hf] at hx
        simp only [cond_true] at hx
        split at hx
        · rename_i v' hv'
          cases hf2 : flatN 1 v' with
          | false => rw [hf2] at hx; cases hx
          | true =>
            rw [hf2] at hx
            simp only [cond_true, Option.some.injEq] at hx
            subst hx
            have e1 := (hall hv).flat hf
            have e5 : args0.map a.eval = args.toArray := by apply Array.ext'; rw [e1]
            have e6 : argTypes.toList.toArray = argTypes := by simp
            rw [e6] at hv'
            exact ⟨_, by simp [execOp, resolve, invoke, builtin, e5, pureRun_run hv' w], VR.same 1 _ hf2⟩
        · cases hx
    · rename_i args hv
      cases hf : args.all (flatN 1) with
      | false => rw [hf] at hx; cases hx
      | true =>
        rw [hf] at hx
        simp only [cond_true] at hx
        split at hx
        · rename_i v' hv'
          cases hf2 : flatN 1 v' with
          | false => rw [hf2] at hx; cases hx
          | true =>
            rw [hf2] at hx
            simp only [cond_true, Option.some.injEq] at hx
            subst hx
            have e1 := (hall hv).flat hf
            have e5 : args0.map a.eval = args.toArray := by apply Array.ext'; rw [e1]
            have e6 : argTypes.toList.toArray = argTypes := by simp
            rw [e6] at hv'
            exact ⟨_, by simp [execOp, resolve, invoke, builtin, e5, pureRun_run hv' w], VR.same 1 _ hf2⟩
        · cases hx
    · cases hx
  · cases hx
theorem LR.toList {a : Act} (xs : Array Operand) : (xs.map a.eval).toList = xs.toList.map a.eval := by simp
end
end Go.Proofs.YtflnpcgnenhogaaDoor.ev

namespace Go.Proofs.YtflnpcgnenhogaaDoor.ev
open Go Go.RowKit

section
variable {B : Nat} {P : Program} {σ : Sg} {h : H} {nx : Nat} {w : World}

theorem row_of {cells us : List Value} (hl : LR σ cells us) {c : T Value} (hc : T.setMany .leaf 0 cells = some c) (κ : Nat) (e : TypeId) (d : Value) (lz : Option Nat) (hlz : ∀ sz, lz = some sz → us.length = κ * sz) :
    ORel σ κ (.row cells.length c d e lz true) (.cells us.toArray e) := by
  refine ⟨us.toArray, (0, 0), rfl, by have := hl.1; simp; omega, fun i hi => ?_, fun sz hs => by simpa using hlz sz hs, fun _ i _ => by simp, fun _ => by have := hl.1; simp; omega⟩
  have h1 := T.get_setMany cells .leaf c 0 hc i
  rw [if_pos ⟨Nat.zero_le _, by omega⟩, Nat.sub_zero] at h1
  have h2 : cells[i]? = some cells[i] := List.getElem?_eq_getElem hi
  obtain ⟨u, h3, h4⟩ := hl.get h2
  refine ⟨u, by simpa using h3, ?_⟩
  unfold cellAt
  rw [h1, h2]
  exact h4

theorem repeat_length (zs : List Value) : ∀ n, (repeatCells zs n).length = n * zs.length
  | 0 => by simp [repeatCells]
  | n + 1 => by simp [repeatCells, repeat_length zs n, Nat.succ_mul, Nat.add_comm]
theorem repeat_get (zs : List Value) : ∀ (n i : Nat), i < n * zs.length → (repeatCells zs n)[i]? = zs[i % zs.length]?
  | 0, i, h => by simp at h
  | n + 1, i, h => by
    simp only [repeatCells, List.getElem?_append]
    by_cases hi : i < zs.length
    · rw [if_pos hi, Nat.mod_eq_of_lt hi]
    · have e : i % zs.length = (i - zs.length) % zs.length := Nat.mod_eq_sub_mod (by omega)
      rw [if_neg hi, repeat_get zs n (i - zs.length) (by rw [Nat.succ_mul] at h; omega), e]
theorem made_eq (z : Array Value) (n : Nat) (hz : z.size ≠ 0 ∨ n = 0) : ((Array.range (n * z.size)).map (z[· % z.size]!)).toList = repeatCells z.toList n := by
  apply List.ext_getElem?
  intro i
  by_cases hi : i < n * z.size
  · rw [repeat_get _ _ _ (by simpa using hi)]
    have hzs : z.size ≠ 0 := by rcases hz with h | h
                                · exact h
                                · subst h; simp at hi
    have hm : i % z.size < z.size := Nat.mod_lt _ (by omega)
    simp [hi, hm]
  · rw [List.getElem?_eq_none (by simp; omega), List.getElem?_eq_none (by rw [repeat_length]; simp; omega)]

theorem rowOf_inv {e : TypeId} {cells : List Value} {r : AO} (h : rowOf e cells = some r) : ∃ c, T.setMany .leaf 0 cells = some c ∧ r = .row cells.length c undef e none true := by
  unfold rowOf at h
  split at h
  · rename_i c hc
    injection h with h
    exact ⟨c, hc, h.symm⟩
  · cases h

theorem LR.repeat {zs : List Value} (hz : LR σ zs zs) : ∀ n, LR σ (repeatCells zs n) (repeatCells zs n)
  | 0 => LR.nil
  | n + 1 => hz.append (LR.repeat hz n)

theorem xa_sound {o : Oper} {g : Nat → Value} {a : Act} {id : Nat} {v : Value} {r : AO} (hg : ∀ x ∈ o.op.operands.toList, VO σ g a x) (hx : xa P o g id = some (v, r)) :
    r.isDead = false ∧ ∃ (U : Nat → Value) (ob : Obj), (∀ w : World, (execOp a.eval o).run P w = .ok (.value (U w.heap.size)) (w.alloc ob)) ∧
      ∀ σ' b κ, σ.le σ' → σ' id = some (b, κ) → VR σ' v (U b) ∧ ORel σ' κ r ob := by
  obtain ⟨dst, op, type, pos, after, guard⟩ := o
  unfold xa stA at hx
  simp only at hg hx
  split at hx <;> dsimp only at hx
  · rename_i e
    split at hx
    · rename_i z hz
      cases hf : flatN 6 z with
      | false => rw [hf] at hx; cases hx
      | true =>
        rw [hf] at hx
        simp only [cond_true] at hx
        split at hx
        · rename_i r' hr'
          simp only [Option.some.injEq, Prod.mk.injEq] at hx
          obtain ⟨rfl, rfl⟩ := hx
          obtain ⟨c, hc, rfl⟩ := rowOf_inv hr'
          refine ⟨rfl, fun b => .pointer (some ⟨b, 0, none⟩), .cells z.cells e, fun w => by simp [execOp, Instr.alloc, zeroOf_run hz, newVar, newRow], fun σ' b κ hs hid => ⟨.ptr hid, ?_⟩⟩
          have := row_of (σ := σ') ((VR.same (σ := σ') 6 _ hf).cells) hc κ e undef none (fun sz h => by cases h)
          rw [← vcells_eq] at this ⊢
          simpa using this
        · cases hx
    · cases hx
  · rename_i e x
    split at hx
    · rename_i p hp
      split at hx
      · rename_i r' hr'
        simp only [Option.some.injEq, Prod.mk.injEq] at hx
        obtain ⟨rfl, rfl⟩ := hx
        obtain ⟨c, hc, rfl⟩ := rowOf_inv hr'
        have hv := hg x (by simp [Op.operands]) _ hp
        refine ⟨rfl, fun b => .pointer (some ⟨b, 0, none⟩), .cells (a.eval x).cells e, fun w => by simp [execOp, Instr.box, newVar, newRow], fun σ' b κ hs hid => ⟨.ptr hid, ?_⟩⟩
        have := row_of (σ := σ') ((hv.mono hs).cells) hc κ e undef none (fun sz h => by cases h)
        rw [← vcells_eq (a.eval x)] at this
        simpa using this
      · cases hx
    · cases hx
  · simp only [Option.some.injEq, Prod.mk.injEq] at hx
    obtain ⟨rfl, rfl⟩ := hx
    exact ⟨rfl, fun b => .map (some b), .map #[] 0, fun w => by simp [execOp, Instr.makeMap], fun σ' b κ hs hid => ⟨.map hid, #[], rfl, rfl, fun i e e' h => by simp at h⟩⟩
  · rename_i t l c
    split at hx
    · rename_i p q hp hq
      split at hx
      · rename_i n m r' hm
        simp only [Option.some.injEq, Prod.mk.injEq] at hx
        obtain ⟨rfl, rfl⟩ := hx
        have hpv := hg l (by simp [Op.operands]) _ hp
        have hqv := hg c (by simp [Op.operands]) _ hq
        unfold makeSliceA at hm
        split at hm
        · rename_i e l0 c0 hu
          have e1 := hpv.atom_inv rfl
          have e2 := hqv.atom_inv rfl
          split at hm
          · rename_i i hi
            split at hm
            · rename_i z hz
              cases hb : Nat.ble l0 c0 && Nat.ble c0 16777216 && Nat.ble (c0 * i.bytes) 16777216 && Nat.beq i.size (vcells z).length && flatN 6 z with
              | false => rw [hb] at hm; cases hm
              | true =>
                rw [hb] at hm
                simp only [cond_true] at hm
                simp only [Bool.and_eq_true] at hb
                obtain ⟨⟨⟨⟨b1, b2⟩, b3⟩, b4⟩, b5⟩ := hb
                have b1 := ble_of b1
                have b2 := ble_of b2
                have b3 := ble_of b3
                have b4 := beq_of b4
                have hrun : ∀ w : World, (Instr.makeSlice t (a.eval l) (a.eval c)).run P w = .ok (.slice (some ⟨w.heap.size, 0, none⟩) l0 c0) (w.alloc (.cells (madeCells z.cells (c0 * i.size)) e)) := fun w => by
                  rw [e1, e2]
                  have b3' : (i.bytes : Int) * (c0 : Int) ≤ 281474976710656 := by
                    have : ((c0 * i.bytes : Nat) : Int) ≤ 281474976710656 := by omega
                    rwa [Int.natCast_mul, Int.mul_comm] at this
                  have := run_make (P := P) w t e i z hu hi hz .i64 .i64 (l0 : Int) (c0 : Int) (by omega) (by omega) b3' (by omega)
                  simpa using this
                have hzl : z.cells.size = i.size := by rw [b4, ← vcells_eq]; simp
                have hmade : (madeCells z.cells (c0 * i.size)).toList = repeatCells (vcells z) c0 := by
                  rw [← hzl, ← vcells_eq]
                  by_cases hc0 : c0 = 0
                  · subst hc0; simp [madeCells, repeatCells, Array.range]
                  · by_cases hz0 : z.cells.size = 0
                    · have : z.cells = #[] := by simpa using hz0
                      rw [this]
                      have hrep : ∀ n, repeatCells ([] : List Value) n = [] := fun n => by induction n with | zero => rfl | succ n ih => simp [repeatCells, ih]
                      simp [madeCells, hrep, Array.range]
                    · exact made_eq z.cells c0 (.inl hz0)
                split at hm
                · rename_i z0 hz0
                  simp only [Option.some.injEq, Prod.mk.injEq] at hm
                  obtain ⟨rfl, rfl, rfl⟩ := hm
                  refine ⟨rfl, fun b => .slice (some ⟨b, 0, none⟩) l0 c0, .cells (madeCells z.cells (c0 * i.size)) e, fun w => by simp [execOp, hrun], fun σ' b κ hs hid => ⟨.slice hid, madeCells z.cells (c0 * i.size), (0, 0), rfl, ?_, fun j hj => ?_, (fun sz h => by cases h), fun _ j _ => by simp, fun _ => by have := congrArg List.length hmade; rw [repeat_length, hz0] at this; simp at this; omega⟩⟩
                  · have := congrArg List.length hmade
                    rw [repeat_length, hz0] at this
                    simp at this; omega
                  · have h0 := repeat_get (vcells z) c0 j (by rw [hz0]; simpa using hj)
                    rw [← hmade, hz0, Array.getElem?_toList] at h0
                    refine ⟨z0, by rw [h0]; simp [Nat.mod_one], ?_⟩
                    have h5 := (VR.same (σ := σ') 6 _ b5).cells
                    rw [hz0] at h5
                    have h6 : cellAt (.leaf : T Value) z0 j = z0 := by unfold cellAt; rw [T.get_leaf]
                    rw [h6]
                    exact h5.head.1
                · rename_i zs _ hzs
                  split at hm
                  · rename_i tt htt
                    simp only [Option.some.injEq, Prod.mk.injEq] at hm
                    obtain ⟨rfl, rfl, rfl⟩ := hm
                    refine ⟨rfl, fun b => .slice (some ⟨b, 0, none⟩) l0 c0, .cells (madeCells z.cells (c0 * i.size)) e, fun w => by simp [execOp, hrun], fun σ' b κ hs hid => ⟨.slice hid, ?_⟩⟩
                    have h5 := (VR.same (σ := σ') 6 _ b5).cells
                    have := row_of (LR.repeat h5 c0) htt κ e undef none (fun sz h => by cases h)
                    rw [← hmade] at this
                    rw [← hmade]
                    simpa using this
                  · cases hm
            · cases hm
          · cases hm
        · cases hm
      · cases hx
    · cases hx
  · rename_i t n parts
    split at hx
    · rename_i l hl
      split at hx
      · rename_i r' hr'
        simp only [Option.some.injEq, Prod.mk.injEq] at hx
        obtain ⟨rfl, rfl⟩ := hx
        obtain ⟨p1, p2⟩ := partsA_sound (fun x hx => hg x.2 (by
          simp only [Op.operands]
          simp only [List.mem_map]
          exact ⟨x, hx, rfl⟩)) hl
        unfold buildSliceA at hr'
        split at hr'
        · rename_i e hu
          split at hr'
          · rename_i sz z hsz hz
            cases hb : Nat.ble (n * sz) 65536 && flatN 6 z && Nat.beq (vcells z).length sz with
            | false => rw [hb] at hr'; cases hr'
            | true =>
              rw [hb] at hr'
              simp only [cond_true] at hr'
              simp only [Bool.and_eq_true] at hb
              obtain ⟨⟨b1, b2⟩, b3⟩ := hb
              have b1 := ble_of b1
              have b3 := beq_of b3
              split at hr'
              · rename_i l2 hfi
                split at hr'
                · rename_i cc hcc
                  injection hr' with hr'; subst hr'
                  have hzl : z.cells.size = sz := by rw [← b3, ← vcells_eq]; simp
                  have h5 := (VR.same (σ := σ) 6 _ b2).cells
                  have hmk : ∀ zero : Array Value, (n * sz ≠ 0 → zero = z.cells) → (((Array.range (n * sz)).map (zero[· % zero.size]!)).toList = repeatCells (vcells z) n) := fun zero hzero => by
                    by_cases h0 : n * sz = 0
                    · rw [h0]
                      have hrl := repeat_length (vcells z) n
                      rw [b3, h0] at hrl
                      rw [List.eq_nil_of_length_eq_zero hrl]
                      simp [Array.range]
                    · rw [hzero h0, ← hzl, ← vcells_eq]
                      exact made_eq z.cells n (.inl (by rw [hzl]; intro hc; rw [hc] at h0; simp at h0))
                  have key : ∃ cells' : Array Value, LR σ l2 cells'.toList ∧ ∀ w : World, (Instr.buildSlice t n (parts.map fun (i, x) => (i, a.eval x))).run P w = .ok (.slice (some ⟨w.heap.size, 0, none⟩) n n) (w.alloc (.cells cells' e)) := by
                    have e0 : (parts.map fun (x : Nat × Operand) => (x.1, a.eval x.2)).toList = (parts.toList.map fun x => (x.1, a.eval x.2)) := by simp
                    unfold szOf at hsz
                    cases hie : P.info? e with
                    | none => rw [hie] at hsz; cases hsz
                    | some ie =>
                      rw [hie] at hsz
                      injection hsz with hsz
                      have hz' : ie.zero = some z := by unfold zeroOf at hz; rw [hie] at hz; exact hz
                      have hns : ¬ n * ie.size > 2 ^ 24 := by rw [hsz]; omega
                      by_cases h0 : n * sz = 0
                      · obtain ⟨l', g1, g2⟩ := fillA_sound (σ := σ) (pl' := fun i => some (i * sz, sz)) (fun i x hx => hx) (cs' := (Array.range (n * sz)).map ((#[] : Array Value)[· % (#[] : Array Value).size]!)) (by
                          rw [hmk #[] (fun h => absurd h0 h)]
                          exact LR.repeat h5 n) p1 p2 hfi
                        refine ⟨l', g2, fun w => ?_⟩
                        rw [← e0] at g1
                        rw [h0] at g1
                        simp only [Array.toList_map] at g1
                        have h0' : n * ie.size = 0 := by rw [hsz]; exact h0
                        rw [← hsz] at g1
                        have hr0 : ∀ f : Nat → Value, (Array.range 0).map f = #[] := fun f => by simp [Array.range]
                        rw [hr0] at g1
                        simp [Instr.buildSlice, run_underlying hu, sizeOf, typeInfo, hie, h0', hr0, g1, newRow]
                      · obtain ⟨l', g1, g2⟩ := fillA_sound (σ := σ) (pl' := fun i => some (i * sz, sz)) (fun i x hx => hx) (cs' := (Array.range (n * sz)).map (z.cells[· % z.cells.size]!)) (by
                          rw [hmk z.cells (fun _ => rfl)]
                          exact LR.repeat h5 n) p1 p2 hfi
                        refine ⟨l', g2, fun w => ?_⟩
                        rw [← e0] at g1
                        rw [← hsz] at g1
                        exact run_buildSlice w t e n _ l' ie z hu hie hz' hns (by rw [hsz]; exact h0) g1
                  obtain ⟨cells', k1, k2⟩ := key
                  refine ⟨rfl, fun b => .slice (some ⟨b, 0, none⟩) n n, .cells cells' e, fun w => by simp only [execOp]; rw [Sem.run_bind, k2]; rfl, fun σ' b κ hs hid => ⟨.slice hid, ?_⟩⟩
                  have := row_of (k1.mono hs) hcc κ e undef none (fun sz h => by cases h)
                  simpa using this
                · cases hr'
              · cases hr'
          · cases hr'
        · cases hr'
      · cases hx
    · cases hx
  · cases hx
end
end Go.Proofs.YtflnpcgnenhogaaDoor.ev

namespace Go.Proofs.YtflnpcgnenhogaaDoor.ev
open Go Go.RowKit

section
variable {B : Nat} {P : Program} {σ : Sg} {h : H} {nx : Nat} {w : World}

theorem setCells_same (b : Nat) : ∀ (vs : List Value) (o : Nat) (w : World), (w.setCells b o vs).os = w.os ∧ (w.setCells b o vs).tape = w.tape ∧ (w.setCells b o vs).output = w.output ∧ (w.setCells b o vs).heap.size = w.heap.size ∧ ∀ x, x ≠ b → (w.setCells b o vs).heap[x]? = w.heap[x]?
  | [], o, w => ⟨rfl, rfl, rfl, rfl, fun _ _ => rfl⟩
  | v :: vs, o, w => by
    obtain ⟨a1, a2, a3, a4, a5⟩ := setCells_same b vs (o + 1) (w.setCell ⟨b, o, none⟩ v)
    refine ⟨a1.trans rfl, a2.trans rfl, a3.trans rfl, a4.trans (by simp), fun x hx => (a5 x hx).trans ?_⟩
    simp [World.setCell, Array.getElem?_modify, Ne.symm hx]

theorem setCells_row (b : Nat) : ∀ (vs : List Value) (o : Nat) (w : World) (c : Array Value) (e : TypeId) (fz : Nat × Nat), w.heap[b]? = some (.cells c e fz) →
    ∃ c' : Array Value, (w.setCells b o vs).heap[b]? = some (.cells c' e fz) ∧ c'.size = c.size ∧ (∀ i, (i < o ∨ o + vs.length ≤ i) → c'[i]? = c[i]?) ∧ (∀ j, j < vs.length → o + j < c.size → c'[o + j]? = vs[j]?)
  | [], o, w, c, e, fz, h => ⟨c, h, rfl, fun _ _ => rfl, fun j hj => by simp at hj⟩
  | v :: vs, o, w, c, e, fz, h => by
    have h1 : (w.setCell ⟨b, o, none⟩ v).heap[b]? = some (.cells (c.setIfInBounds o v) e fz) := by simp [World.setCell, Array.getElem?_modify, h]
    obtain ⟨c', a1, a2, a3, a4⟩ := setCells_row b vs (o + 1) _ _ e fz h1
    refine ⟨c', a1, by simpa using a2, fun i hi => ?_, fun j hj hjs => ?_⟩
    · rw [a3 i (by simp only [List.length_cons] at hi; omega)]
      rw [Array.getElem?_setIfInBounds_ne (by simp only [List.length_cons] at hi; omega)]
    · cases j with
      | zero =>
        rw [Nat.add_zero, a3 o (.inl (by omega))]
        simp [Array.getElem?_setIfInBounds]; omega
      | succ j =>
        have := a4 j (by simpa using hj) (by simp; omega)
        rw [show o + (j + 1) = o + 1 + j by omega, this]
        rfl

theorem all_one {vs us : List Value} (hl : LR σ vs us) (h1 : vs.all oneCell = true) : ∀ u ∈ us, u.oneCell' = true := by
  intro u hu
  obtain ⟨i, hi⟩ := List.getElem?_of_mem hu
  obtain ⟨hlt, _⟩ := List.getElem?_eq_some_iff.1 hi
  have h2 : vs[i]? = some (vs[i]'(by rw [hl.1]; exact hlt)) := List.getElem?_eq_getElem _
  exact (hl.2 i _ u h2 hi).one (List.all_eq_true.1 h1 _ (List.mem_of_getElem? h2))

theorem H.set_inv {h h' : H} {k : Nat} {o : AO} (hs : h.set k o = some h') : h'.next = h.next ∧ h'.heap.get k = some o ∧ ∀ j, j ≠ k → h'.heap.get j = h.heap.get j := by
  obtain ⟨t, n⟩ := h
  obtain ⟨t1, h1, h2⟩ := T.setK_inv (d := 60) o t k (fun t' => some (⟨t', n⟩ : H)) hs
  injection h2 with h2; subst h2
  exact ⟨rfl, by rw [h1]; simp, fun j hj => by rw [h1, if_neg hj]⟩
theorem H.new_inv {h h' : H} {k : Nat} {o : AO} (hs : h.new o = some (k, h')) : k = h.next ∧ h'.next = h.next + 1 ∧ h'.heap.get h.next = some o ∧ ∀ j, j ≠ h.next → h'.heap.get j = h.heap.get j := by
  obtain ⟨t, n⟩ := h
  obtain ⟨t1, h1, h2⟩ := T.setK_inv (d := 60) o t n (fun t' => some (n, (⟨t', Nat.succ n⟩ : H))) hs
  simp only [Option.some.injEq, Prod.mk.injEq] at h2
  obtain ⟨rfl, rfl⟩ := h2
  exact ⟨rfl, rfl, by rw [h1]; simp, fun j hj => by rw [h1, if_neg hj]⟩

theorem writeN_sound (hr : HR B σ h.heap.get h.next w) {k off : Nat} {vs us : List Value} {h' : H} (hw : writeN h k off vs = some h') {b κ : Nat} (hs : σ k = some (b, κ)) (hl : LR σ vs us) :
    (∀ j, j < us.length → (w.cell? ⟨b, off + j, none⟩).isSome = true) ∧ (∀ j, j < us.length → w.frozen? ⟨b, off + j, none⟩ = false) ∧ (∀ u ∈ us, u.oneCell' = true) ∧
      Step B σ h.heap.get h.next w σ h'.heap.get h'.next (w.setCells b off us) := by
  unfold writeN at hw
  split at hw
  · rename_i m cells d e lz wr hk
    cases hb : wr && Nat.ble (off + vs.length) m && vs.all oneCell with
    | false => rw [hb] at hw; cases hw
    | true =>
      rw [hb] at hw
      simp only [cond_true] at hw
      simp only [Bool.and_eq_true] at hb
      obtain ⟨⟨b1, b2⟩, b3⟩ := hb
      have b2 := ble_of b2
      subst b1
      split at hw
      · rename_i c hc
        obtain ⟨c0, fz, h1, h2, h3, h4, h5⟩ := hr.row hk hs
        obtain ⟨e1, e2, e3⟩ := H.set_inv hw
        have hln := hl.1
        refine ⟨fun j hj => ?_, fun j hj => ?_, all_one hl b3, ?_⟩
        · have : off + j < c0.size := by omega
          simp [World.cell?, h1, this]
        · have := h5 rfl (off + j) (by omega)
          simp only [World.frozen?, h1]
          exact this
        · obtain ⟨s1, s2, s3, s4, s5⟩ := setCells_same b us off w
          obtain ⟨c', r1, r2, r3, r4⟩ := setCells_row b us off w c0 e fz h1
          rw [e1]
          refine hr.write (o' := .row m c d e lz true) hk rfl rfl hs s1 s2 s3 s4 r1 s5 ⟨c', fz, rfl, by omega, fun i hi => ?_, fun sz hsz => by rw [r2]; exact h4 sz hsz, fun hwr i hi => h5 hwr i (by omega), fun hlz => by rw [r2]; exact hr.rowX hk hs h1 hlz⟩ e2 e3
          have hg := T.get_setMany vs cells c off hc i
          by_cases hin : off ≤ i ∧ i < off + vs.length
          · rw [if_pos hin] at hg
            have hlt : i - off < vs.length := by omega
            have hv : vs[i - off]? = some vs[i - off] := List.getElem?_eq_getElem hlt
            obtain ⟨u, g1, g2⟩ := hl.get hv
            refine ⟨u, ?_, ?_⟩
            · have := r4 (i - off) (by omega) (by omega)
              rw [show off + (i - off) = i by omega] at this
              rw [this, g1]
            · unfold cellAt
              rw [hg, hv]
              exact g2
          · rw [if_neg hin] at hg
            obtain ⟨u, g1, g2⟩ := h3 i hi
            refine ⟨u, by rw [r3 i (by omega)]; exact g1, ?_⟩
            unfold cellAt at g2 ⊢
            rw [hg]
            exact g2
      · cases hw
  · cases hw

theorem storeA_sound (hr : HR B σ h.heap.get h.next w) {t : TypeId} {p v p' v' : Value} (hp : VR σ p p') (hv : VR σ v v') {h' : H} (hs : storeA P h t p v = some h') :
    ∃ w', (Instr.storeAt t p' v').run P w = .ok () w' ∧ Step B σ h.heap.get h.next w σ h'.heap.get h'.next w' := by
  unfold storeA at hs
  split at hs
  · rename_i k off
    split at hs
    · rename_i n hn
      cases hb : Nat.beq n (vcells v).length with
      | false => rw [hb] at hs; cases hs
      | true =>
        rw [hb] at hs
        simp only [cond_true] at hs
        have hb := beq_of hb
        obtain ⟨b, κ, hσ, rfl⟩ := hp.ptr_inv
        obtain ⟨g1, g2, g3, g4⟩ := writeN_sound hr hs hσ hv.cells
        refine ⟨_, ?_, g4⟩
        have hst := run_storeCells_cells (P := P) b off (vcells v') 0 w (by simpa using g1) (by simpa using g2) g3
        simp only [Nat.add_zero] at hst
        have hsz : v'.cells.size = n := by rw [hb, hv.cells.1, ← vcells_eq]; simp
        simp [Instr.storeAt, Instr.sureAddr, storeVar, szOf_run hn, hsz, vcells_eq, hst]
    · cases hs
  · cases hs

theorem byteVals_eq (s : ByteArray) : byteVals s s.size = byteCells s := by
  unfold byteVals byteCells
  rw [List.take_of_length_le (by rw [Array.length_toList]; exact Nat.le_refl _)]
/-- what an append or a copy takes from: n elements of a slice or a string -/
theorem firstA_sound (hr : HR B σ h.heap.get nx w) {sz n : Nat} {x x' : Value} {l : List Value} (hx : VR σ x x') (hl : firstA h sz n x = some l) (hn : ∃ m, lenOfA x = some m ∧ n ≤ m) (hstr : ∀ s, x = .string s → sz = 1) :
    ∃ us : List Value, LR σ l us ∧ us.length = n * sz ∧ ∀ w2 : World, w2.heap = w.heap → (Builtin.firstCells sz n x').run P w2 = .ok us.toArray w2 := by
  unfold firstA at hl
  split at hl
  · rename_i k off sp len c
    obtain ⟨b, κ, o, c', hσ, rfl, ho⟩ := hx.any_slice
    obtain ⟨us, h1, h2, h3⟩ := readN_sound hr hl hσ
    refine ⟨us, h1, h2, fun w2 hw2 => ?_⟩
    have hc : ∀ (j : Nat) (u : Value), us[j]? = some u → w2.cell? ((⟨b, o, none⟩ : Addr).add j) = some u := fun j u hj => by
      rw [addr_add]
      obtain ⟨m, hm1, hm2⟩ := hn
      simp only [lenOfA, Option.some.injEq] at hm1
      have hjl := (List.getElem?_eq_some_iff.1 hj).1
      have hn0 : 0 < n := by
        rcases Nat.eq_zero_or_pos n with h0 | h0
        · rw [h0, Nat.zero_mul] at h2; omega
        · exact h0
      have := ho (by omega)
      subst this
      have := h3 j u hj
      simpa [World.cell?, hw2] using this
    have := run_loadCells_list (P := P) w2 ⟨b, o, none⟩ us hc
    rw [h2] at this
    simp [Builtin.firstCells, this]
  · rename_i len c
    cases hb : Nat.beq (n * sz) 0 with
    | false => rw [hb] at hl; cases hl
    | true =>
      rw [hb] at hl
      simp only [cond_true, Option.some.injEq] at hl
      subst hl
      have e := hx.atom_inv rfl
      subst e
      exact ⟨[], LR.nil, (beq_of hb).symm, fun w2 _ => rfl⟩
  · rename_i s
    injection hl with hl; subst hl
    have e := hx.atom_inv rfl
    subst e
    have := hstr s rfl
    subst this
    obtain ⟨m, hm1, hm2⟩ := hn
    simp only [lenOfA, Option.some.injEq] at hm1
    subst hm1
    have hfl : (byteVals s n).all (flatN 0) = true := by
      rw [List.all_eq_true]
      intro v hv
      unfold byteVals at hv
      obtain ⟨b, _, rfl⟩ := List.mem_map.1 hv
      rfl
    have hlen : s.data.toList.length = s.size := by rw [Array.length_toList]; rfl
    refine ⟨byteVals s n, LR.same hfl, by unfold byteVals; rw [List.length_map, List.length_take, hlen]; omega, fun w2 _ => ?_⟩
    have e : (s.extract 0 n).data.map (fun b => Value.int .u8 b.toNat) = (byteVals s n).toArray := by
      apply Array.ext'
      unfold byteVals
      simp [ByteArray.data_extract]
    show (pure ((s.extract 0 n).data.map fun b => Value.int .u8 b.toNat) : Sem (Array Value)).run P w2 = _
    rw [e]; rfl
  · cases hl
end
end Go.Proofs.YtflnpcgnenhogaaDoor.ev

namespace Go.Proofs.YtflnpcgnenhogaaDoor.ev
open Go Go.RowKit

section
variable {B : Nat} {P : Program} {σ : Sg} {h : H} {w : World}

/-- what the second argument of an append yields: what is wanted of it -/
structure SrcK (P : Program) (t tx e : TypeId) (i : TypeInfo) (x : Value) (n : Nat) (news : List Value) (w : World) : Prop where
  len : news.length = n * i.size
  nothing : n = 0 → ∀ (ty : TypeId) (base : Option Addr) (sLen sCap : Nat), sLen ≤ sCap → (Builtin.append_ #[t, tx] ty #[.slice base sLen sCap, x]).run P w = .ok (.slice base sLen sCap) w
  room : ∀ (ty : TypeId) (b off sLen sCap : Nat), sLen + n ≤ sCap → (∀ j, j < news.length → (w.cell? ⟨b, off + sLen * i.size + j, none⟩).isSome = true) → (∀ j, j < news.length → w.frozen? ⟨b, off + sLen * i.size + j, none⟩ = false) →
    (Builtin.append_ #[t, tx] ty #[.slice (some ⟨b, off, none⟩) sLen sCap, x]).run P w = .ok (.slice (some ⟨b, off, none⟩) (sLen + n) sCap) (w.setCells b (off + sLen * i.size) news)
  grow : ∀ (ty : TypeId) (z : Value) (_ : i.zero = some z) (base : Option Addr) (sLen sCap : Nat) (olds : List Value), (Builtin.firstCells i.size sLen (.slice base sLen sCap)).run P w.drew = .ok olds.toArray w.drew →
    sCap < sLen + n → ((sLen + n : Nat) : Int) ≤ 9223372036854775807 → Builtin.nextslicecap (sLen + n) sCap * i.bytes ≤ 281474976710656 →
    (Builtin.append_ #[t, tx] ty #[.slice base sLen sCap, x]).run P w =
      .ok (.slice (some ⟨w.heap.size, 0, none⟩) (sLen + n) (grownCap w (sLen + n) sCap e))
        (w.drew.alloc (.cells ((olds ++ news).toArray ++ Builtin.zeroCells z.cells (grownCap w (sLen + n) sCap e - (sLen + n))) e))
theorem SrcK.ofSrc {t tx e : TypeId} {i : TypeInfo} {x : Value} {n : Nat} {news : List Value} (ht : P.underlying t = some (.slice e)) (hi : P.info? e = some i) (hs : Src P i.size tx x n news w) : SrcK P t tx e i x n news w := by
  refine ⟨hs.newsLen, fun h0 ty base sLen sCap hle => ?_, fun ty b off sLen sCap hroom hc hf => run_append_room_src (P := P) w t tx ty e i ht hi b off sLen sCap x n news hs hroom hc hf,
    fun ty z hz base sLen sCap olds hold hg h63 hfit => run_append_grow_src (P := P) w t tx ty e i z ht hi hz base sLen sCap olds hold x n news hs hg h63 hfit⟩
  subst h0
  have hnil : news = [] := List.eq_nil_of_length_eq_zero (by rw [hs.newsLen]; simp)
  subst hnil
  exact run_append_nothing w t tx ty e i ht hi base sLen sCap hle x hs
theorem SrcK.ofZeros {t tx e : TypeId} {i : TypeInfo} {z : Value} {kq kn : IntKind} {n : Nat} (ht : P.underlying t = some (.slice e)) (htn : P.underlying tx = some (.int kn)) (hi : P.info? e = some i) (hz : i.zero = some z)
    (h1 : 0 < i.size) (hzs : z.cells.size = i.size) (hone : ∀ u ∈ repeatCells (vcells z) n, u.oneCell' = true) (hn : n ≤ 16777216) (hb : n * i.bytes ≤ 16777216) : SrcK P t tx e i (.int kq n) n (repeatCells (vcells z) n) w := by
  have hrep : (Builtin.zeroCells z.cells n) = (repeatCells (vcells z) n).toArray := by
    apply Array.ext'
    rw [← vcells_eq]
    exact made_eq z.cells n (.inl (by omega))
  have hw : IntKind.i64.wrap (n : Int) = n := by rw [IntKind.wrap_i64]; omega
  have hneg : ¬ ((n : Int) < 0) := by omega
  have h48i : ¬ (281474976710656 < (n : Int) * (i.bytes : Int)) := by
    rw [← Int.natCast_mul]
    omega
  have hlen : (repeatCells (vcells z) n).length = n * i.size := by rw [repeat_length, ← hzs, ← vcells_eq]; simp
  have hw0 : IntKind.i64.wrap (0 : Int) = 0 := rfl
  refine ⟨hlen, fun h0 ty base sLen sCap hle => ?_, fun ty b off sLen sCap hroom hc hf => ?_, fun ty z' hz' base sLen sCap olds hold hg h63 hfit => ?_⟩
  · subst h0
    cases base <;> simp [Builtin.append_, run_underlying ht, run_underlying htn, sizeOf, typeInfo, hi, Go.asInt, Go.asIntOf, hw0, hle, storeCells]
  · by_cases h0 : n = 0
    · subst h0
      simp [Builtin.append_, run_underlying ht, run_underlying htn, sizeOf, typeInfo, hi, Go.asInt, Go.asIntOf, hw0, show sLen ≤ sCap by omega, storeCells, repeatCells, World.setCells]
    · have hst := run_storeCells_cells (P := P) b (off + sLen * i.size) (repeatCells (vcells z) n) 0 w (by simpa using hc) (by simpa using hf) hone
      simp only [Nat.add_zero] at hst
      have hns : ¬ (n * i.size = 0) := Nat.mul_ne_zero h0 (by omega)
      simp [Builtin.append_, run_underlying ht, run_underlying htn, sizeOf, typeInfo, zeroValue, hi, hz, Go.asInt, Go.asIntOf, hw, hneg, h48i, hns, hroom, hrep, Addr.add_lit, hst]
  · rw [hz] at hz'; injection hz' with hz'; subst hz'
    have hp : 0 < n ∨ n = 0 := by omega
    rcases hp with hp | hp
    · have := Lib.run_append_grow_zeros (P := P) w t tx ty e i z kq kn ht htn hi hz base sLen sCap olds hold n hp h1 hg h63 (by omega) hfit
      rw [this, hrep]
      simp
    · subst hp
      have hnn : ¬ (sLen ≤ sCap) := by omega
      have h63' : ¬ (9223372036854775807 < (sLen : Int)) := by omega
      have h48' : ¬ (281474976710656 < Builtin.nextslicecap sLen sCap * i.bytes) := by simp only [Nat.add_zero] at hfit; omega
      simp [Builtin.append_, run_underlying ht, run_underlying htn, sizeOf, typeInfo, zeroValue, hi, hz, Go.asInt, Go.asIntOf, hw0, hnn, h63', h48', Question.forced, hold, newRow, grownCap, repeatCells]

theorem srcA_sound (hr : HR B σ h.heap.get h.next w) {sz m : Nat} {t tx e : TypeId} {i : TypeInfo} {x x' : Value} {new : List Value} (ht : P.underlying t = some (.slice e)) (hi : P.info? e = some i) (hisz : i.size = sz) (hx : VR σ x x') (hs : srcA P h e sz tx x = some (m, new)) :
    ∃ us, LR σ new us ∧ SrcK P t tx e i x' m us w := by
  subst hisz
  unfold srcA at hs
  split at hs
  · rename_i m0 d hm hd
    cases hb : rowish d && strOk i.size x with
    | false => rw [hb] at hs; cases hs
    | true =>
      rw [hb] at hs
      simp only [cond_true] at hs
      simp only [Bool.and_eq_true] at hb
      split at hs
      · rename_i new0 hn
        cases ho : new0.all oneCell with
        | false => rw [ho] at hs; cases hs
        | true =>
          rw [ho] at hs
          simp only [cond_true, Option.some.injEq, Prod.mk.injEq] at hs
          obtain ⟨rfl, rfl⟩ := hs
          obtain ⟨us, h1, h2, h3⟩ := firstA_sound (P := P) hr hx hn ⟨m0, hm, Nat.le_refl _⟩ (fun s hs => by subst hs; exact beq_of hb.2)
          have hlen : ∀ w' : World, (Builtin.lenOf x').run P w' = .ok m0 w' := fun w' => by
            unfold lenOfA at hm
            split at hm
            · rename_i a0 n0 c0
              injection hm with hm; subst hm
              have key : ∃ a' c', x' = .slice a' n0 c' := by
                cases hx with
                | atom h => exact ⟨_, _, rfl⟩
                | slice h => exact ⟨_, _, rfl⟩
                | loose h h' => exact ⟨_, _, rfl⟩
                | void h => exact ⟨_, _, rfl⟩
              obtain ⟨a', c', rfl⟩ := key
              rfl
            · injection hm with hm; subst hm
              have e := hx.atom_inv rfl
              subst e
              rfl
            · cases hm
          refine ⟨us, h1, SrcK.ofSrc ht hi ⟨?_, hlen, h3 w rfl, h3 w.drew rfl, h2, all_one h1 ho⟩⟩
          cases d <;> first
            | exact .inl ⟨_, hd⟩
            | exact .inr hd
            | (have := hb.1; simp [rowish] at this)
      · cases hs
  · unfold zerosA at hs
    split at hs
    · rename_i kq1 m0 kn1 hk _
      split at hs
      · rename_i i' hi'
        rw [hi] at hi'; injection hi' with hi'; subst hi'
        split at hs
        · rename_i z hz
          cases hb : Nat.ble 1 i.size && Nat.beq i.size i.size && Nat.beq (vcells z).length i.size && Nat.ble m0 16777216 && Nat.ble (m0 * i.bytes) 16777216 && flatN 6 z && (vcells z).all oneCell && (vcells z).all (flatN 6) with
          | false => rw [hb] at hs; cases hs
          | true =>
            rw [hb] at hs
            simp only [cond_true, Option.some.injEq, Prod.mk.injEq] at hs
            obtain ⟨rfl, rfl⟩ := hs
            simp only [Bool.and_eq_true] at hb
            obtain ⟨⟨⟨⟨⟨⟨⟨b1, _⟩, b2⟩, b3⟩, b4⟩, _⟩, b5⟩, b6⟩ := hb
            have e0 := hx.atom_inv rfl
            subst e0
            have hl : LR σ (repeatCells (vcells z) m0) (repeatCells (vcells z) m0) := LR.repeat (LR.same b6) m0
            have hall : (repeatCells (vcells z) m0).all oneCell = true := by
              rw [List.all_eq_true]
              intro u hu
              obtain ⟨j, hj⟩ := List.getElem?_of_mem hu
              have hlt := (List.getElem?_eq_some_iff.1 hj).1
              rw [repeat_length] at hlt
              rw [repeat_get _ _ _ hlt] at hj
              exact List.all_eq_true.1 b5 u (List.mem_of_getElem? hj)
            refine ⟨_, hl, SrcK.ofZeros ht hk hi hz (ble_of b1) ?_ (all_one hl hall) (ble_of b3) (ble_of b4)⟩
            have := beq_of b2
            rw [← this, ← vcells_eq]; simp
        · cases hs
      · cases hs
    · cases hs
  · cases hs

theorem infoOf {e : TypeId} {sz : Nat} {i : TypeInfo} (hsz : szOf P e = some sz) (hi : P.info? e = some i) : i.size = sz := by
  unfold szOf at hsz; rw [hi] at hsz; injection hsz

/-- a row that grows -/
theorem growA_sound (hr : HR B σ h.heap.get h.next w) {t tx ty e : TypeId} {sz m sLen sCap : Nat} {s : Value} {base : Option Addr} {x' : Value} {new us : List Value} {v : Value} {h' : H} (hsz : szOf P e = some sz)
    (hs : VR σ s (.slice base sLen sCap)) (hlen : lenOfA s = some sLen) (hus : LR σ new us) (hsrc : ∀ i, P.info? e = some i → SrcK P t tx e i x' m us w) (hg : sCap < sLen + m) (hgr : growA P h e sz s sLen (sLen + m) new = some (v, h')) :
    ∃ u w' σ', (Builtin.append_ #[t, tx] ty #[.slice base sLen sCap, x']).run P w = .ok u w' ∧ VR σ' v u ∧ Step B σ h.heap.get h.next w σ' h'.heap.get h'.next w' := by
  unfold growA at hgr
  split at hgr
  · rename_i i hi
    split at hgr
    · rename_i z hz
      cases hb : Nat.ble ((sLen + m) * i.bytes) 140737488355328 && Nat.ble (sLen + m) 140737488355328 && Nat.beq (vcells z).length sz with
      | false => rw [hb] at hgr; cases hgr
      | true =>
        rw [hb] at hgr
        simp only [cond_true] at hgr
        simp only [Bool.and_eq_true] at hb
        obtain ⟨⟨b1, b2⟩, b3⟩ := hb
        have b1 := ble_of b1
        have b2 := ble_of b2
        have b3 := beq_of b3
        split at hgr
        · rename_i old hold
          split at hgr
          · rename_i c hc
            split at hgr
            · rename_i k h1 hnew
              simp only [Option.some.injEq, Prod.mk.injEq] at hgr
              obtain ⟨rfl, rfl⟩ := hgr
              have hisz := infoOf hsz hi
              obtain ⟨olds, o1, o2, o3⟩ := firstA_sound (P := P) hr hs hold ⟨sLen, hlen, Nat.le_refl _⟩ (fun q hq => by subst hq; simp [lenOfA] at hlen; cases hs)
              have hsrc := hsrc i hi
              have hrun := hsrc.grow ty z hz base sLen sCap olds (by rw [hisz]; exact o3 w.drew rfl) hg (by omega) (growslice_fits (by omega) b1)
              obtain ⟨rfl, e2, e3, e4⟩ := H.new_inv hnew
              have hge := grownCap_ge w (sLen + m) sCap e
              refine ⟨_, _, σ.set h.next w.heap.size (grownCap w (sLen + m) sCap e), hrun, ?_, ?_⟩
              · have := VR.loose (σ := σ.set h.next w.heap.size (grownCap w (sLen + m) sCap e)) (k := h.next) (b := w.heap.size) (κ := grownCap w (sLen + m) sCap e) (o := 0) (d := 0) (n := sLen + m) (Sg.set_same _ _ _ _) (by omega)
                simpa using this
              · rw [e2]
                have hl2 : LR (σ.set h.next w.heap.size (grownCap w (sLen + m) sCap e)) (old ++ new) (olds ++ us) := (o1.append hus).mono (Sg.set_le _ _ (hr.fresh _ (Nat.le_refl _)).1)
                have hlz : (olds ++ us).length = (sLen + m) * sz := by rw [List.length_append, o2, hsrc.len, hisz, Nat.add_mul]
                refine hr.newB (o := .row (old ++ new).length c undef e (some sz) true) (w' := w.drew.alloc (.cells ((olds ++ us).toArray ++ Builtin.zeroCells z.cells (grownCap w (sLen + m) sCap e - (sLen + m))) e)) rfl rfl rfl rfl ?_ e3 e4
                refine ⟨_, (0, 0), rfl, ?_, fun j hj => ?_, fun q hq => ?_, fun _ j _ => by simp, fun hq => by cases hq⟩
                · simp; have := hl2.1; simp at this; omega
                · have h1 := T.get_setMany (old ++ new) .leaf c 0 hc j
                  rw [if_pos ⟨Nat.zero_le _, by omega⟩, Nat.sub_zero] at h1
                  have h2 : (old ++ new)[j]? = some (old ++ new)[j] := List.getElem?_eq_getElem hj
                  obtain ⟨u, g1, g2⟩ := hl2.get h2
                  refine ⟨u, ?_, ?_⟩
                  · rw [Array.getElem?_append]
                    have : j < (olds ++ us).toArray.size := by have := hl2.1; simp at this hj ⊢; omega
                    rw [if_pos this]
                    simpa using g1
                  · unfold cellAt
                    rw [h1, h2]
                    exact g2
                · injection hq with hq; subst hq
                  have hzs : z.cells.size = sz := by rw [← b3, ← vcells_eq]; simp
                  rw [Array.size_append, size_zeroCells, hzs]
                  have : (olds ++ us).toArray.size = (sLen + m) * sz := by rw [List.size_toArray, hlz]
                  rw [this, ← Nat.add_mul]
                  congr 1
                  omega
            · cases hgr
          · cases hgr
        · cases hgr
    · cases hgr
  · cases hgr

/-- a row that goes on under another name -/
theorem HR.move {B : Nat} {σ : Sg} {hp : Nat → Option AO} {nx : Nat} {w : World} (h : HR B σ hp nx w) {k : Nat} {o : AO} {b κ : Nat} (hk : hp k = some o) (hd : o.isDead = false) (hr : o.ro = false) (hs : σ k = some (b, κ)) {o' : AO} {ob' : Obj} {w' : World}
    (_ : o'.isDead = false) (e1 : w'.os = w.os) (e2 : w'.tape = w.tape) (e3 : w'.output = w.output) (e4 : w'.heap.size = w.heap.size) (hb : w'.heap[b]? = some ob') (hot : ∀ c, c ≠ b → w'.heap[c]? = w.heap[c]?) (ho : ORel (σ.set nx b κ) κ o' ob')
    {hp' : Nat → Option AO} (hp0 : hp' k = some .dead) (hp1 : hp' nx = some o') (hp2 : ∀ j, j ≠ k → j ≠ nx → hp' j = hp j) : Step B σ hp nx w (σ.set nx b κ) hp' (nx + 1) w' := by
  have hle : σ.le (σ.set nx b κ) := Sg.set_le _ _ (h.fresh nx (Nat.le_refl _)).1
  have hlt : k < nx := by
    rcases Nat.lt_or_ge k nx with h' | h'
    · exact h'
    · rw [(h.fresh k h').1] at hs; cases hs
  have hB : B ≤ b := by
    obtain ⟨b', κ', ob, a1, _, _, a2⟩ := h.live k o hk hd
    rw [hs] at a1; injection a1 with a1; injection a1 with a1 a3; subst a1
    exact a2 hr
  have hblt := h.lt_of hk hd hs
  have old : ∀ j oj, hp' j = some oj → oj.isDead = false → j ≠ nx → hp j = some oj ∧ j ≠ k := fun j oj g1 g2 g3 => by
    have hjk : j ≠ k := by rintro rfl; rw [hp0] at g1; injection g1 with g1; subst g1; cases g2
    exact ⟨by rw [← hp2 j hjk g3]; exact g1, hjk⟩
  refine ⟨e1, e2, e3, by omega, fun c hc hn => ?_, fun j oj c κj h1 h2 h3 => ?_, fun j hj => Sg.set_other _ _ _ (by omega), fun j hj hn => ?_, fun j oj hj => ?_, by omega,
    ⟨fun j oj h1 h2 => ?_, fun j j' oj oj' c κj κj' h1 h2 h3 h4 h5 h6 => ?_, fun j hj => ?_, by rw [e4]; exact h.base, fun i hi => ?_⟩⟩
  · refine hot c fun e => ?_
    subst e
    exact hn k o κ hk hd hr hs
  · by_cases hj : j = nx
    · subst hj
      rw [Sg.set_same] at h3; injection h3 with h3; injection h3 with h3 h4; subst h3
      exact .inr ⟨k, o, κ, hk, hd, hs, fun _ => hr⟩
    · obtain ⟨g1, _⟩ := old j oj h1 h2 hj
      rw [Sg.set_other _ _ _ hj] at h3
      exact .inr ⟨j, oj, κj, g1, h2, h3, id⟩
  · have hjk : j ≠ k := by rintro rfl; rw [hk] at hn; cases hn
    rw [hp2 j hjk (by omega)]; exact hn
  · by_cases hjk : j = k
    · subst hjk; exact ⟨_, hp0⟩
    · by_cases hjn : j = nx
      · subst hjn; exact ⟨_, hp1⟩
      · rw [hp2 j hjk hjn]; exact ⟨oj, hj⟩
  · by_cases hj : j = nx
    · subst hj
      rw [hp1] at h1; injection h1 with h1; subst h1
      exact ⟨b, κ, ob', Sg.set_same _ _ _ _, hb, ho, fun _ => hB⟩
    · obtain ⟨g1, hjk⟩ := old j oj h1 h2 hj
      obtain ⟨c, κj, oc, a1, a2, a3, a4⟩ := h.live j oj g1 h2
      refine ⟨c, κj, oc, by rw [Sg.set_other _ _ _ hj]; exact a1, ?_, a3.mono hle, a4⟩
      rw [hot c (fun e => ?_)]
      · exact a2
      · subst e
        exact hjk (h.inj j k oj o c κj κ g1 h2 hk hd a1 hs)
  · by_cases hj : j = nx
    · by_cases hj' : j' = nx
      · omega
      · obtain ⟨g1, hjk⟩ := old j' oj' h3 h4 hj'
        rw [Sg.set_other _ _ _ hj'] at h6
        subst hj
        rw [Sg.set_same] at h5
        injection h5 with h5; injection h5 with h5 h7; subst h5
        exact absurd (h.inj j' k oj' o b κj' κ g1 h4 hk hd h6 hs) hjk
    · obtain ⟨g1, hjk⟩ := old j oj h1 h2 hj
      rw [Sg.set_other _ _ _ hj] at h5
      by_cases hj' : j' = nx
      · subst hj'
        rw [Sg.set_same] at h6
        injection h6 with h6; injection h6 with h6 h7; subst h6
        exact absurd (h.inj j k oj o b κj κ g1 h2 hk hd h5 hs) hjk
      · obtain ⟨g2, _⟩ := old j' oj' h3 h4 hj'
        rw [Sg.set_other _ _ _ hj'] at h6
        exact h.inj j j' oj oj' c κj κj' g1 h2 g2 h4 h5 h6
  · have := h.fresh j (by omega)
    exact ⟨by rw [Sg.set_other _ _ _ (by omega)]; exact this.1, by rw [hp2 j (by omega) (by omega)]; exact this.2⟩
  · rw [Sg.set_other _ _ _ ?_]
    · exact h.glob i hi
    · rintro rfl
      have := h.glob i hi
      rw [(h.fresh i (Nat.le_refl _)).1] at this
      cases this
end
end Go.Proofs.YtflnpcgnenhogaaDoor.ev

namespace Go.Proofs.YtflnpcgnenhogaaDoor.ev
open Go Go.RowKit

section
variable {B : Nat} {P : Program} {σ : Sg} {h : H} {w : World}

theorem appendA_sound (hr : HR B σ h.heap.get h.next w) {t tx ty : TypeId} {s x s' x' v : Value} {h' : H} (hs : VR σ s s') (hx : VR σ x x') (ha : appendA P h t tx s x = some (v, h')) :
    ∃ u w' σ', (Builtin.append_ #[t, tx] ty #[s', x']).run P w = .ok u w' ∧ VR σ' v u ∧ Step B σ h.heap.get h.next w σ' h'.heap.get h'.next w' := by
  unfold appendA at ha
  split at ha
  · rename_i e ht
    split at ha
    · rename_i sz hsz
      split at ha
      · rename_i m new hsr
        obtain ⟨i, hi, hisz⟩ : ∃ i, P.info? e = some i ∧ i.size = sz := by
          unfold szOf at hsz
          cases hie : P.info? e with
          | none => rw [hie] at hsz; cases hsz
          | some i => rw [hie] at hsz; injection hsz with hsz; exact ⟨i, rfl, hsz⟩
        obtain ⟨us, hus, hsrc'⟩ := srcA_sound hr ht hi hisz hx hsr
        have hsrc : ∀ i, P.info? e = some i → SrcK P t tx e i x' m us w := fun i2 hi2 => by rw [hi] at hi2; injection hi2 with hi2; subst hi2; exact hsrc'
        have nothing : m = 0 → ∀ (base : Option Addr) (sLen sCap : Nat), sLen ≤ sCap → (Builtin.append_ #[t, tx] ty #[.slice base sLen sCap, x']).run P w = .ok (.slice base sLen sCap) w := fun h0 base sLen sCap hle => by
          exact hsrc'.nothing h0 ty base sLen sCap hle
        split at ha
        · have e0 := hs.atom_inv rfl
          subst e0
          cases hb : Nat.beq m 0 with
          | true =>
            rw [hb] at ha
            simp only [cond_true, Option.some.injEq, Prod.mk.injEq] at ha
            obtain ⟨rfl, rfl⟩ := ha
            exact ⟨_, w, σ, nothing (beq_of hb) none 0 0 (Nat.le_refl _), .atom rfl, Step.refl hr⟩
          | false =>
            rw [hb] at ha
            simp only [cond_false] at ha
            have hm := nbeq_of hb
            exact growA_sound (ty := ty) hr hsz hs rfl hus hsrc (by omega) (by rw [Nat.zero_add]; exact ha)
        · rename_i k off len cap
          obtain ⟨b, κ, hσ, rfl⟩ := hs.slice_inv
          cases hb : Nat.ble (len + m) cap with
          | true =>
            rw [hb] at ha
            simp only [cond_true] at ha
            split at ha
            · rename_i h1 hw
              simp only [Option.some.injEq, Prod.mk.injEq] at ha
              obtain ⟨rfl, rfl⟩ := ha
              obtain ⟨g1, g2, g3, g4⟩ := writeN_sound hr hw hσ hus
              have hrun := hsrc'.room ty b off len cap (ble_of hb) (by rw [hisz]; exact g1) (by rw [hisz]; exact g2)
              rw [hisz] at hrun
              exact ⟨_, _, σ, hrun, .slice hσ, g4⟩
            · cases ha
          | false =>
            rw [hb] at ha
            simp only [cond_false] at ha
            have hnb : ¬ (len + m ≤ cap) := fun hle => by rw [Nat.ble_eq_true_of_le hle] at hb; cases hb
            exact growA_sound (ty := ty) hr hsz hs rfl hus hsrc (by omega) ha
        · rename_i k off d len
          obtain ⟨b, κ, hσ, hle, rfl⟩ := hs.loose_inv
          cases hb : Nat.beq m 0 with
          | true =>
            rw [hb] at ha
            simp only [cond_true, Option.some.injEq, Prod.mk.injEq] at ha
            obtain ⟨rfl, rfl⟩ := ha
            exact ⟨_, w, σ, nothing (beq_of hb) _ len (κ - d) (by omega), hs, Step.refl hr⟩
          | false =>
            rw [hb] at ha
            simp only [cond_false] at ha
            have hm := nbeq_of hb
            split at ha
            · rename_i n cells df el sz' hk
              cases hc : Nat.beq sz sz' && Nat.beq el e && Nat.ble 1 sz with
              | false => rw [hc] at ha; cases ha
              | true =>
                rw [hc] at ha
                simp only [cond_true] at ha
                simp only [Bool.and_eq_true] at hc
                obtain ⟨⟨c1, c2⟩, c3⟩ := hc
                have c1 := beq_of c1
                have c2 := beq_of c2
                have c3 := ble_of c3
                subst c1; subst c2
                obtain ⟨c, fz, r1, r2, r3, r4, r5⟩ := hr.row hk hσ
                have r4 := r4 sz rfl
                cases hq : Nat.beq off (d * sz) && Nat.ble (off + (len + m) * sz) n with
                | true =>
                  rw [hq] at ha
                  simp only [cond_true] at ha
                  simp only [Bool.and_eq_true] at hq
                  have q1 := beq_of hq.1
                  have q2 := ble_of hq.2
                  split at ha
                  · rename_i h1 hw
                    simp only [Option.some.injEq, Prod.mk.injEq] at ha
                    obtain ⟨rfl, rfl⟩ := ha
                    obtain ⟨g1, g2, g3, g4⟩ := writeN_sound hr hw hσ hus
                    have hroom : d + (len + m) ≤ κ := by
                      have h1 : (d + (len + m)) * sz ≤ κ * sz := by rw [Nat.add_mul, ← q1]; omega
                      exact Nat.le_of_mul_le_mul_right h1 (by omega)
                    have hrun := hsrc'.room ty b off len (κ - d) (by omega) (by rw [hisz]; exact g1) (by rw [hisz]; exact g2)
                    rw [hisz] at hrun
                    exact ⟨_, _, σ, hrun, .loose hσ hroom, g4⟩
                  · cases ha
                | false =>
                  rw [hq] at ha
                  simp only [cond_false] at ha
                  cases hp : Nat.beq off 0 && Nat.beq d 0 && Nat.ble (len * sz) n && Nat.ble n ((len + m) * sz) with
                  | false => rw [hp] at ha; cases ha
                  | true =>
                    rw [hp] at ha
                    simp only [cond_true] at ha
                    simp only [Bool.and_eq_true] at hp
                    obtain ⟨⟨⟨p1, p2⟩, p3⟩, p4⟩ := hp
                    have p1 := beq_of p1
                    have p2 := beq_of p2
                    have p3 := ble_of p3
                    have p4 := ble_of p4
                    subst p1; subst p2
                    split at ha
                    · rename_i i2 hi2
                      rw [hi] at hi2; injection hi2 with hi2; subst hi2
                      split at ha
                      · rename_i z hz
                        cases hv : Nat.ble ((len + m) * i.bytes) 140737488355328 && Nat.ble (len + m) 140737488355328 && Nat.beq (vcells z).length sz with
                        | false => rw [hv] at ha; cases ha
                        | true =>
                          rw [hv] at ha
                          simp only [cond_true] at ha
                          simp only [Bool.and_eq_true] at hv
                          obtain ⟨⟨v1, v2⟩, v3⟩ := hv
                          have v1 := ble_of v1
                          have v2 := ble_of v2
                          have v3 := beq_of v3
                          split at ha
                          · rename_i c' hc'
                            split at ha
                            · rename_i h1 hdead
                              split at ha
                              · rename_i k' h2 hnew
                                simp only [Option.some.injEq, Prod.mk.injEq] at ha
                                obtain ⟨rfl, rfl⟩ := ha
                                obtain ⟨d1, d2, d3⟩ := H.set_inv hdead
                                obtain ⟨n1, n2, n3, n4⟩ := H.new_inv hnew
                                rw [d1] at n1 n2 n3 n4
                                subst n1
                                have hkn : k ≠ h.next := by
                                  rintro rfl
                                  rw [(hr.fresh _ (Nat.le_refl _)).1] at hσ; cases hσ
                                have hp0 : h2.heap.get k = some .dead := by rw [n4 k hkn]; exact d2
                                have hp2 : ∀ j, j ≠ k → j ≠ h.next → h2.heap.get j = h.heap.get j := fun j g1 g2 => by rw [n4 j g2, d3 j g1]
                                have hul : us.length = m * sz := by rw [hsrc'.len, hisz]
                                have hnl := hus.1
                                -- the cells of the new row
                                have hcell : ∀ j, j < (len + m) * sz → (len * sz ≤ j → ∃ u, new[j - len * sz]? = some u ∧ cellAt c' df j = u) ∧ (j < len * sz → cellAt c' df j = cellAt cells df j) := fun j hj => by
                                  have hg := T.get_setMany new cells c' (len * sz) hc' j
                                  refine ⟨fun hle => ?_, fun hlt => ?_⟩
                                  · rw [if_pos ⟨hle, by rw [hnl, hul]; rw [Nat.add_mul] at hj; omega⟩] at hg
                                    have hlt : j - len * sz < new.length := by rw [hnl, hul]; rw [Nat.add_mul] at hj; omega
                                    refine ⟨new[j - len * sz], List.getElem?_eq_getElem hlt, ?_⟩
                                    unfold cellAt
                                    rw [hg, List.getElem?_eq_getElem hlt]
                                  · rw [if_neg (by omega)] at hg
                                    unfold cellAt
                                    rw [hg]
                                by_cases hroom : len + m ≤ κ
                                · -- there was room
                                  have hc1 : ∀ j, j < us.length → (w.cell? ⟨b, 0 + len * i.size + j, none⟩).isSome = true := fun j hj => by
                                    have : len * sz + j < c.size := by
                                      rw [r4]
                                      have : (len + m) * sz ≤ κ * sz := Nat.mul_le_mul_right _ hroom
                                      rw [Nat.add_mul] at this
                                      omega
                                    rw [hisz, Nat.zero_add]
                                    simp [World.cell?, r1, this]
                                  have hc2 : ∀ j, j < us.length → w.frozen? ⟨b, 0 + len * i.size + j, none⟩ = false := fun j hj => by
                                    have : len * sz + j < c.size := by
                                      rw [r4]
                                      have : (len + m) * sz ≤ κ * sz := Nat.mul_le_mul_right _ hroom
                                      rw [Nat.add_mul] at this
                                      omega
                                    rw [hisz, Nat.zero_add]
                                    simp only [World.frozen?, r1]
                                    exact r5 rfl _ this
                                  have hrun := hsrc'.room ty b 0 len (κ - 0) (by omega) hc1 hc2
                                  obtain ⟨s1, s2, s3, s4, s5⟩ := setCells_same b us (0 + len * i.size) w
                                  obtain ⟨cc, t1, t2, t3, t4⟩ := setCells_row b us (0 + len * i.size) w c el fz r1
                                  rw [hisz, Nat.zero_add] at s1 s2 s3 s4 s5 t1 t3 t4 hrun
                                  have hle' : σ.le (σ.set h.next b κ) := Sg.set_le _ _ (hr.fresh _ (Nat.le_refl _)).1
                                  refine ⟨_, _, σ.set h.next b κ, hrun, .loose (Sg.set_same _ _ _ _) (by omega), ?_⟩
                                  rw [n2]
                                  refine hr.move (o' := .row ((len + m) * sz) c' df el (some sz) true) hk rfl rfl hσ rfl s1 s2 s3 s4 t1 s5 ⟨cc, fz, rfl, ?_, fun j hj => ?_, fun q hq => ?_, fun _ j hj => r5 rfl j (by omega), fun hq => by cases hq⟩ hp0 n3 hp2
                                  · rw [t2, r4]; exact Nat.mul_le_mul_right _ hroom
                                  · obtain ⟨x1, x2⟩ := hcell j hj
                                    by_cases hjl : j < len * sz
                                    · rw [x2 hjl]
                                      obtain ⟨u, y1, y2⟩ := r3 j (by omega)
                                      exact ⟨u, by rw [t3 j (.inl hjl)]; exact y1, y2.mono hle'⟩
                                    · obtain ⟨u0, y1, y2⟩ := x1 (by omega)
                                      rw [y2]
                                      obtain ⟨u, z1, z2⟩ := hus.get y1
                                      have hj2 : j - len * sz < us.length := (List.getElem?_eq_some_iff.1 z1).1
                                      refine ⟨u, ?_, z2.mono hle'⟩
                                      have := t4 (j - len * sz) hj2 (by rw [r4]; have : (len + m) * sz ≤ κ * sz := Nat.mul_le_mul_right _ hroom
                                                                        omega)
                                      rw [show len * sz + (j - len * sz) = j by omega] at this
                                      rw [this]; exact z1
                                  · injection hq with hq; subst hq; rw [t2]; exact r4
                                · -- there was none
                                  have hge := grownCap_ge w (len + m) (κ - 0) el
                                  have hold : (Builtin.firstCells i.size len (.slice (some ⟨b, 0, none⟩) len (κ - 0))).run P w.drew = .ok (c.toList.take (len * sz)).toArray w.drew := by
                                    have hcl : len * sz ≤ c.size := by omega
                                    have := run_loadCells_list (P := P) w.drew ⟨b, 0, none⟩ (c.toList.take (len * sz)) (fun j u hj => by
                                      have hjl := (List.getElem?_eq_some_iff.1 hj).1
                                      rw [List.getElem?_take] at hj
                                      rw [List.length_take] at hjl
                                      rw [if_pos (by omega), Array.getElem?_toList] at hj
                                      rw [addr_add, Nat.zero_add]
                                      show w.cell? ⟨b, j, none⟩ = some u
                                      simp [World.cell?, r1, hj])
                                    rw [List.length_take, Array.length_toList, Nat.min_eq_left hcl] at this
                                    rw [hisz]
                                    simp only [Builtin.firstCells]
                                    exact this
                                  have hrun := hsrc'.grow ty z hz (some ⟨b, 0, none⟩) len (κ - 0) (c.toList.take (len * sz)) hold (by omega) (by omega) (growslice_fits (by omega) v1)
                                  have hle' : σ.le (σ.set h.next w.heap.size (grownCap w (len + m) (κ - 0) el)) := Sg.set_le _ _ (hr.fresh _ (Nat.le_refl _)).1
                                  refine ⟨_, _, σ.set h.next w.heap.size (grownCap w (len + m) (κ - 0) el), hrun, ?_, ?_⟩
                                  · have := VR.loose (σ := σ.set h.next w.heap.size (grownCap w (len + m) (κ - 0) el)) (k := h.next) (b := w.heap.size) (κ := grownCap w (len + m) (κ - 0) el) (o := 0) (d := 0) (n := len + m) (Sg.set_same _ _ _ _) (by omega)
                                    simpa using this
                                  · rw [n2]
                                    -- first the new block, then the old one dies
                                    have hp1' : ∀ j, j ≠ h.next → (fun j => if j = h.next then some (AO.row ((len + m) * sz) c' df el (some sz) true) else h.heap.get j) j = h.heap.get j := fun j hj => if_neg hj
                                    have hlen2 : (c.toList.take (len * sz) ++ us).length = (len + m) * sz := by
                                      rw [List.length_append, List.length_take, Array.length_toList, Nat.min_eq_left (by omega), hul, Nat.add_mul]
                                    have st := hr.newB (o := .row ((len + m) * sz) c' df el (some sz) true) (κ := grownCap w (len + m) (κ - 0) el) (w' := w.drew.alloc (.cells ((c.toList.take (len * sz) ++ us).toArray ++ Builtin.zeroCells z.cells (grownCap w (len + m) (κ - 0) el - (len + m))) el)) rfl rfl rfl rfl (by
                                      refine ⟨_, (0, 0), rfl, ?_, fun j hj => ?_, fun q hq => ?_, fun _ j _ => by simp, fun hq => by cases hq⟩
                                      · rw [Array.size_append, List.size_toArray, hlen2]; omega
                                      · have hin : ((c.toList.take (len * sz) ++ us).toArray ++ Builtin.zeroCells z.cells (grownCap w (len + m) (κ - 0) el - (len + m)))[j]? = (c.toList.take (len * sz) ++ us)[j]? := by
                                          rw [Array.getElem?_append, List.size_toArray, hlen2, if_pos hj]
                                          simp
                                        obtain ⟨x1, x2⟩ := hcell j hj
                                        rw [hin, List.getElem?_append, List.length_take, Array.length_toList, Nat.min_eq_left (by omega)]
                                        by_cases hjl : j < len * sz
                                        · rw [if_pos hjl, x2 hjl, List.getElem?_take, if_pos hjl, Array.getElem?_toList]
                                          obtain ⟨u, y1, y2⟩ := r3 j (by omega)
                                          exact ⟨u, y1, y2.mono hle'⟩
                                        · rw [if_neg hjl]
                                          obtain ⟨u0, y1, y2⟩ := x1 (by omega)
                                          rw [y2]
                                          obtain ⟨u, z1, z2⟩ := hus.get y1
                                          exact ⟨u, z1, z2.mono hle'⟩
                                      · injection hq with hq; subst hq
                                        have hzs : z.cells.size = sz := by rw [← v3, ← vcells_eq]; simp
                                        rw [Array.size_append, List.size_toArray, hlen2, size_zeroCells, hzs, ← Nat.add_mul]
                                        congr 1
                                        omega) (hp' := fun j => if j = h.next then some (AO.row ((len + m) * sz) c' df el (some sz) true) else h.heap.get j) (if_pos rfl) hp1'
                                    have hr2 := st.hr
                                    refine ⟨st.os, st.tape, st.output, st.size, st.old, fun j oj c κj g1 g2 g3 => ?_, st.keep, fun j hj hn => ?_, fun j oj hj => ?_, st.nxle, ⟨fun j oj g1 g2 => ?_, fun j j' oj oj' c κj κj' g1 g2 g3 g4 g5 g6 => ?_, fun j hj => ?_, hr2.base, hr2.glob⟩⟩
                                    · have hjk : j ≠ k := by rintro rfl; rw [hp0] at g1; injection g1 with g1; subst g1; cases g2
                                      refine st.img j oj c κj ?_ g2 g3
                                      by_cases hjn : j = h.next
                                      · subst hjn; rw [n3] at g1; simp only [if_pos]; exact g1
                                      · rw [hp2 j hjk hjn] at g1; simp only [if_neg hjn]; exact g1
                                    · have hjk : j ≠ k := by rintro rfl; rw [hk] at hn; cases hn
                                      rw [hp2 j hjk (by omega)]; exact hn
                                    · by_cases hjk : j = k
                                      · subst hjk; exact ⟨_, hp0⟩
                                      · by_cases hjn : j = h.next
                                        · subst hjn; exact ⟨_, n3⟩
                                        · rw [hp2 j hjk hjn]; exact ⟨oj, hj⟩
                                    · have hjk : j ≠ k := by rintro rfl; rw [hp0] at g1; injection g1 with g1; subst g1; cases g2
                                      refine hr2.live j oj ?_ g2
                                      by_cases hjn : j = h.next
                                      · subst hjn; rw [n3] at g1; simp only [if_pos]; exact g1
                                      · rw [hp2 j hjk hjn] at g1; simp only [if_neg hjn]; exact g1
                                    · have key : ∀ q oq, h2.heap.get q = some oq → oq.isDead = false → (if q = h.next then some (AO.row ((len + m) * sz) c' df el (some sz) true) else h.heap.get q) = some oq := fun q oq f1 f2 => by
                                        have hqk : q ≠ k := by rintro rfl; rw [hp0] at f1; injection f1 with f1; subst f1; cases f2
                                        by_cases hqn : q = h.next
                                        · subst hqn; rw [n3] at f1; rw [if_pos rfl]; exact f1
                                        · rw [hp2 q hqk hqn] at f1; rw [if_neg hqn]; exact f1
                                      exact hr2.inj j j' oj oj' c κj κj' (key j oj g1 g2) g2 (key j' oj' g3 g4) g4 g5 g6
                                    · have f1 := hr2.fresh j hj
                                      have hjn : j ≠ h.next := by omega
                                      have hjk : j ≠ k := by
                                        rintro rfl
                                        have := (hr.fresh j (by omega)).1
                                        rw [hσ] at this; cases this
                                      exact ⟨f1.1, by rw [hp2 j hjk hjn]; have := f1.2; simp only [if_neg hjn] at this; exact this⟩
                              · cases ha
                            · cases ha
                          · cases ha
                      · cases ha
                    · cases ha
            · cases ha
        · rename_i k off d len
          cases hb : Nat.beq m 0 with
          | false => rw [hb] at ha; cases ha
          | true =>
            rw [hb] at ha
            simp only [cond_true, Option.some.injEq, Prod.mk.injEq] at ha
            obtain ⟨rfl, rfl⟩ := ha
            have key : ∃ b o c', s' = .slice (some ⟨b, o, none⟩) len c' ∧ len ≤ c' := by
              cases hs with
              | atom h => simp [flatN] at h
              | void h => exact ⟨_, _, _, rfl, Nat.zero_le _⟩
            obtain ⟨b, o, c', rfl, hle⟩ := key
            exact ⟨_, w, σ, nothing (beq_of hb) _ len c' hle, hs, Step.refl hr⟩
        · cases ha
      · cases ha
    · cases ha
  · cases ha
end
end Go.Proofs.YtflnpcgnenhogaaDoor.ev

namespace Go.Proofs.YtflnpcgnenhogaaDoor.ev
open Go Go.RowKit

section
variable {B : Nat} {P : Program} {σ : Sg} {h : H} {w : World}

theorem lenOf_run {x x' : Value} {m : Nat} (hm : lenOfA x = some m) (hx : VR σ x x') (w : World) : (Builtin.lenOf x').run P w = .ok m w := by
  unfold lenOfA at hm
  split at hm
  · rename_i a0 n0 c0
    injection hm with hm; subst hm
    have key : ∃ a' c', x' = .slice a' n0 c' := by
      cases hx with
      | atom h => exact ⟨_, _, rfl⟩
      | slice h => exact ⟨_, _, rfl⟩
      | loose h h' => exact ⟨_, _, rfl⟩
      | void h => exact ⟨_, _, rfl⟩
    obtain ⟨a', c', rfl⟩ := key
    rfl
  · injection hm with hm; subst hm
    have e := hx.atom_inv rfl
    subst e
    rfl
  · cases hm

theorem copyA_sound (hr : HR B σ h.heap.get h.next w) {t tx ty : TypeId} {d x d' x' v : Value} {h' : H} (hd : VR σ d d') (hx : VR σ x x') (hs : copyA P h t d x = some (v, h')) :
    ∃ u w', (Builtin.copy_ #[t, tx] ty #[d', x']).run P w = .ok u w' ∧ VR σ v u ∧ Step B σ h.heap.get h.next w σ h'.heap.get h'.next w' := by
  unfold copyA at hs
  split at hs
  · rename_i e b len c m hu hm
    split at hs
    · rename_i sz hsz
      cases ho : strOk sz x with
      | false => rw [ho] at hs; cases hs
      | true =>
        rw [ho] at hs
        simp only [cond_true] at hs
        split at hs
        · rename_i new hn
          obtain ⟨us, h1, h2, h3⟩ := firstA_sound (P := P) hr hx hn ⟨m, hm, Nat.min_le_left _ _⟩ (fun s hs => by subst hs; exact beq_of ho)
          have hlen := lenOf_run (P := P) hm hx w
          split at hs
          · rename_i k off sp
            split at hs
            · rename_i h1' hw
              simp only [Option.some.injEq, Prod.mk.injEq] at hs
              obtain ⟨rfl, rfl⟩ := hs
              obtain ⟨b', κ, o, c', hσ, rfl, hoo⟩ := hd.any_slice
              obtain ⟨g1, g2, g3, g4⟩ := writeN_sound hr hw hσ h1
              refine ⟨.int .i64 (Nat.min m len), w.setCells b' off us, ?_, .atom rfl, g4⟩
              by_cases h0 : len = 0
              · subst h0
                have hus : us = [] := List.eq_nil_of_length_eq_zero (by rw [h2]; simp)
                subst hus
                have h3' : (Builtin.firstCells sz 0 x').run P w = .ok #[] w := by have := h3 w rfl; rwa [show Nat.min m 0 = 0 from Nat.min_zero m] at this
                simp [Builtin.copy_, run_underlying hu, hlen, szOf_run hsz, h3', storeCells, World.setCells, goInt]
              · have := hoo (by omega)
                subst this
                have hst := run_storeCells_cells (P := P) b' o us 0 w (by simpa using g1) (by simpa using g2) g3
                simp only [Nat.add_zero] at hst
                simp [Builtin.copy_, run_underlying hu, hlen, szOf_run hsz, h3 w rfl, hst, goInt]
            · cases hs
          · simp only [Option.some.injEq, Prod.mk.injEq] at hs
            obtain ⟨rfl, rfl⟩ := hs
            have e0 := hd.atom_inv rfl
            subst e0
            exact ⟨.int .i64 (Nat.min m len), w, by simp [Builtin.copy_, run_underlying hu, hlen, szOf_run hsz, h3 w rfl, goInt], .atom rfl, Step.refl hr⟩
        · cases hs
    · cases hs
  · cases hs

/-! ### maps -/
theorem ER.findAt {d : TypeDesc} {k : Value} : ∀ {es : List MapEntry} (i j : Nat) (v : Value), Instr.findNow d k es i = some (some (j, v)) → i ≤ j ∧ ∃ e, es[j - i]? = some e ∧ Instr.sameNow d k e.key = some true
  | [], i, j, v, h => by simp [Instr.findNow] at h
  | e :: es, i, j, v, h => by
    simp only [Instr.findNow] at h
    cases hq : Instr.sameNow d k e.key with
    | none => rw [hq] at h; cases h
    | some b =>
      rw [hq] at h
      cases b with
      | true =>
        simp only [Option.some.injEq, Prod.mk.injEq] at h
        obtain ⟨rfl, _⟩ := h
        exact ⟨Nat.le_refl _, e, by simp, hq⟩
      | false =>
        simp only at h
        obtain ⟨a1, x, a2, a3⟩ := ER.findAt (i + 1) j v h
        exact ⟨by omega, x, by rw [show j - i = (j - (i + 1)) + 1 by omega]; simpa using a2, a3⟩
theorem bytes_eq {a b : ByteArray} (h : (a == b) = true) : a = b := by
  have h' : (a.data == b.data) = true := h
  have := eq_of_beq h'
  cases a; cases b; simp at this; rw [this]
theorem bytes_refl (a : ByteArray) : (a == a) = true := by
  show (a.data == a.data) = true
  simp
theorem sameBits_of {d : TypeDesc} {k x : Value} (h : Instr.sameNow d k x = some true) (n : Nat) : Instr.sameBits n x k = true := by
  unfold Instr.sameNow at h
  split at h
  · split at h
    · rename_i hk
      injection h with h
      simp only [beq_iff_eq] at h
      subst hk; subst h
      cases n <;> simp [Instr.sameBits]
    · cases h
  · rename_i a b
    injection h with h
    have := bytes_eq h
    subst this
    cases n <;> simp [Instr.sameBits, bytes_refl]
  · injection h with h
    have := eq_of_beq h
    subst this
    cases n <;> simp [Instr.sameBits]
  · cases h
theorem ER.setv {k v u : Value} (hk : flatN 0 k = true) (hv : VR σ v u) : ∀ {es es' : List MapEntry} (i : Nat), ER σ es es' → ER σ (setVal es i k v) (es'.modify i fun e => { e with key := k, val := u })
  | [], [], i, he => by cases i <;> exact he
  | [], _ :: _, _, he => by have := he.1; simp at this
  | _ :: _, [], _, he => by have := he.1; simp at this
  | e :: es, e' :: es', 0, he => by
    obtain ⟨a1, a2, a3, a4⟩ := he.2 0 e e' rfl rfl
    refine ⟨by have := he.1; simpa [setVal] using this, fun i x x' h1 h2 => ?_⟩
    cases i with
    | zero => simp [setVal] at h1 h2; subst h1; subst h2; exact ⟨hk, rfl, a3, hv⟩
    | succ i => exact he.2 (i + 1) x x' (by simpa [setVal] using h1) (by simpa using h2)
  | e :: es, e' :: es', i + 1, he => by
    have he' : ER σ es es' := ⟨by have := he.1; simpa using this, fun j x x' h1 h2 => he.2 (j + 1) x x' (by simpa using h1) (by simpa using h2)⟩
    have ih := ER.setv hk hv i he'
    refine ⟨by have := ih.1; simp [setVal] at this ⊢; exact this, fun j x x' h1 h2 => ?_⟩
    cases j with
    | zero => exact he.2 0 x x' (by simpa [setVal] using h1) (by simpa using h2)
    | succ j => exact ih.2 j x x' (by simpa [setVal] using h1) (by simpa using h2)
theorem ER.push {es es' : List MapEntry} (he : ER σ es es') {k v u : Value} (hk : flatN 0 k = true) (hv : VR σ v u) (c : Nat) : ER σ (es ++ [{ key := k, val := v, born := c }]) (es' ++ [{ key := k, val := u, born := c }]) := by
  refine ⟨by simp [he.1], fun i x x' h1 h2 => ?_⟩
  rw [List.getElem?_append] at h1 h2
  rw [← he.1] at h2
  by_cases hi : i < es.length
  · rw [if_pos hi] at h1 h2; exact he.2 i x x' h1 h2
  · rw [if_neg hi] at h1 h2
    cases hq : i - es.length with
    | zero => rw [hq] at h1 h2; simp at h1 h2; subst h1; subst h2; exact ⟨hk, rfl, rfl, hv⟩
    | succ n => rw [hq] at h1; simp at h1
theorem ER.erase {es es' : List MapEntry} (he : ER σ es es') (i : Nat) : ER σ (es.eraseIdx i) (es'.eraseIdx i) := by
  refine ⟨by rw [List.length_eraseIdx, List.length_eraseIdx, he.1], fun j x x' h1 h2 => ?_⟩
  rw [List.getElem?_eraseIdx] at h1 h2
  by_cases hj : j < i
  · rw [if_pos hj] at h1 h2; exact he.2 j x x' h1 h2
  · rw [if_neg hj] at h1 h2; exact he.2 (j + 1) x x' h1 h2

theorem setMap_run {b : Nat} {es : Array MapEntry} {clock : Nat} (hb : w.heap[b]? = some (.map es clock)) (o : Obj) : (setObj b o).run P w = .ok () { w with heap := w.heap.setIfInBounds b o } := by simp [setObj, Sem.run, hb]
theorem HR.putMap (hr : HR B σ h.heap.get h.next w) {k : Nat} {es es2 : List MapEntry} {c c2 : Nat} (hk : h.heap.get k = some (.map es c)) {b κ : Nat} (hs : σ k = some (b, κ)) {es' : Array MapEntry} (he : ER σ es2 es'.toList) {h' : H} (hh : h.set k (.map es2 c2) = some h') :
    Step B σ h.heap.get h.next w σ h'.heap.get h'.next { w with heap := w.heap.setIfInBounds b (.map es' c2) } := by
  obtain ⟨e1, e2, e3⟩ := H.set_inv hh
  have hlt := hr.lt_of hk rfl hs
  rw [e1]
  exact hr.write (o' := .map es2 c2) (ob' := .map es' c2) (w' := { w with heap := w.heap.setIfInBounds b (.map es' c2) }) hk rfl rfl hs rfl rfl rfl (by simp) (by simp [hlt]) (fun x hx => by simp [Array.getElem?_setIfInBounds_ne (Ne.symm hx)]) ⟨es', rfl, he⟩ e2 e3

theorem mapUpdateA_sound (hr : HR B σ h.heap.get h.next w) {t : TypeId} {m k v m' k' v' : Value} {h' : H} (hm : VR σ m m') (hk : VR σ k k') (hv : VR σ v v') (hs : mapUpdateA P h t m k v = some h') :
    ∃ w', (Instr.mapUpdate t m' k' v').run P w = .ok () w' ∧ Step B σ h.heap.get h.next w σ h'.heap.get h'.next w' := by
  unfold mapUpdateA at hs
  split at hs
  · rename_i kt et r hu
    cases hp : plainKey P kt && flatN 0 k with
    | false => rw [hp] at hs; cases hs
    | true =>
      rw [hp] at hs
      simp only [cond_true] at hs
      simp only [Bool.and_eq_true] at hp
      obtain ⟨hp, hf⟩ := hp
      have e := hk.flat 0 hf
      subst e
      obtain ⟨b, κ, hσ, rfl⟩ := hm.map_inv
      split at hs
      · rename_i es clock hh
        obtain ⟨es', g1, g2⟩ := hr.mapAt hh hσ
        split at hs
        · rename_i i u0 hno
          obtain ⟨u, c1, c2, c3⟩ := (keyNo_run (w := w) g2 hno).2 i u0 rfl
          have hat : ∃ e, es[i]? = some e ∧ Instr.sameBits 10000 e.key k' = true := by
            unfold keyNo at hno
            split at hno
            · rename_i d hd
              obtain ⟨_, x, a2, a3⟩ := ER.findAt 0 i u0 hno
              exact ⟨x, by simpa using a2, sameBits_of a3 _⟩
            · cases hno
          obtain ⟨x, x1, x2⟩ := hat
          have hx' : ∃ y, es'[i]? = some y ∧ y.key = x.key := by
            have hlt : i < es'.size := by have := g2.1; simp at this; omega
            refine ⟨es'[i], Array.getElem?_eq_getElem hlt, ?_⟩
            exact (g2.2 i x es'[i] x1 (by simp [hlt])).2.1
          obtain ⟨y, y1, y2⟩ := hx'
          have hstay : ∀ w : World, (Instr.keyThatStays ((es'[i]?.map (·.key)).getD k') k').run P w = .ok k' w := fun w => by
            rw [y1]
            simp [Instr.keyThatStays, y2, x2]
          refine ⟨_, ?_, hr.putMap hh hσ (es' := es'.modify i fun e => { e with key := k', val := v' }) (by
            have := ER.setv hf hv i g2
            simpa using this) hs⟩
          simp [Instr.mapUpdate, run_underlying hu, getMap_run g1, checkKey_run hp, c1, hstay, setMap_run g1]
        · rename_i hno
          have c1 := (keyNo_run (w := w) g2 hno).1 rfl
          refine ⟨_, ?_, hr.putMap hh hσ (es' := es'.push { key := k', val := v', born := clock }) (by
            have := g2.push hf hv clock
            simpa using this) hs⟩
          simp [Instr.mapUpdate, run_underlying hu, getMap_run g1, checkKey_run hp, c1, setMap_run g1]
        · cases hs
      · cases hs
  · cases hs

theorem deleteA_sound (hr : HR B σ h.heap.get h.next w) {t tk ty : TypeId} {m k m' k' : Value} {h' : H} (hm : VR σ m m') (hk : VR σ k k') (hs : deleteA P h t m k = some h') :
    ∃ w', (Builtin.delete_ #[t, tk] ty #[m', k']).run P w = .ok (.tuple #[]) w' ∧ Step B σ h.heap.get h.next w σ h'.heap.get h'.next w' := by
  unfold deleteA at hs
  split at hs
  · rename_i kt et hu
    cases hp : plainKey P kt && flatN 0 k with
    | false => rw [hp] at hs; cases hs
    | true =>
      rw [hp] at hs
      simp only [cond_true, Option.some.injEq] at hs
      subst hs
      simp only [Bool.and_eq_true] at hp
      have e := hm.atom_inv rfl
      subst e
      exact ⟨w, by simp [Builtin.delete_, run_underlying hu, checkKey_run hp.1], Step.refl hr⟩
  · rename_i kt et r hu
    cases hp : plainKey P kt && flatN 0 k with
    | false => rw [hp] at hs; cases hs
    | true =>
      rw [hp] at hs
      simp only [cond_true] at hs
      simp only [Bool.and_eq_true] at hp
      obtain ⟨hp, hf⟩ := hp
      have e := hk.flat 0 hf
      subst e
      obtain ⟨b, κ, hσ, rfl⟩ := hm.map_inv
      split at hs
      · rename_i es clock hh
        obtain ⟨es', g1, g2⟩ := hr.mapAt hh hσ
        split at hs
        · rename_i i u0 hno
          obtain ⟨u, c1, c2, c3⟩ := (keyNo_run (w := w) g2 hno).2 i u0 rfl
          refine ⟨_, ?_, hr.putMap hh hσ (es' := es'.eraseIdxIfInBounds i) (by
            have hlt : i < es'.size := by have := g2.1; simp at this; omega
            have := g2.erase i
            simpa [Array.eraseIdxIfInBounds, hlt] using this) hs⟩
          simp [Builtin.delete_, run_underlying hu, getMap_run g1, checkKey_run hp, c1, setMap_run g1]
        · rename_i hno
          simp only [Option.some.injEq] at hs
          subst hs
          have c1 := (keyNo_run (w := w) g2 hno).1 rfl
          have hlt := hr.lt_of hh rfl hσ
          refine ⟨{ w with heap := w.heap.setIfInBounds b (.map es' clock) }, ?_, ?_⟩
          · simp [Builtin.delete_, run_underlying hu, getMap_run g1, checkKey_run hp, c1, setMap_run g1]
          · exact hr.write (o' := .map es clock) (ob' := .map es' clock) (w' := { w with heap := w.heap.setIfInBounds b (.map es' clock) }) hh rfl rfl hσ rfl rfl rfl (by simp) (by simp [hlt]) (fun x hx => by simp [Array.getElem?_setIfInBounds_ne (Ne.symm hx)]) ⟨es', rfl, g2⟩ hh (fun _ _ => rfl)
        · cases hs
      · cases hs
  · cases hs
end
end Go.Proofs.YtflnpcgnenhogaaDoor.ev
namespace Go.Proofs.YtflnpcgnenhogaaDoor.ev
open Go Go.RowKit

section
variable {B : Nat} {P : Program} {σ : Sg} {h : H} {w : World}

def CallPost (B : Nat) (σ : Sg) (h : H) (w : World) (v : Value) (h' : H) : Ending → World → Prop := fun e w' => ∃ u σ', e = .returned u ∧ VR σ' v u ∧ Step B σ h.heap.get h.next w σ' h'.heap.get h'.next w'
def AnsOk (P : Program) (i : FuncId) (t : List Value → H → Option (Value × H)) : Prop :=
  ∀ args h v h', t args h = some (v, h') → ∀ B σ us w n, HR B σ h.heap.get h.next w → LR σ args us → CallsIn Fence.wide n P i us.toArray w (CallPost B σ h w v h')
def TabOk (P : Program) (tab : Tab) : Prop := ∀ i x, tab i = some x → P.funcs[i]? = some x.fn ∧ (x.fn.name == "runtime.NumGoroutine") = false ∧ ∀ t, x.ans = some t → AnsOk P i t ∧ ∃ c, x.fn.body = some c

/-- what an operation that writes or calls comes to -/
def ANR (P : Program) (B : Nat) (σ : Sg) (h : H) (w : World) (s : Sem Next) : AN → Prop
  | .val v h' => ∃ u w' σ', s.run P w = .ok (.value u) w' ∧ VR σ' v u ∧ Step B σ h.heap.get h.next w σ' h'.heap.get h'.next w'
  | .skip h' => ∃ w' σ', s.run P w = .ok .skip w' ∧ Step B σ h.heap.get h.next w σ' h'.heap.get h'.next w'
  | .call i args h' => h' = h ∧ ∃ us : List Value, s.run P w = .ok (.enter i us.toArray) w ∧ LR σ args us
  | .defer i args cap h' => h' = h ∧ ∃ us cs : Array Value, s.run P w = .ok (.defer { target := .fn (.func i) cs, args := us }) w ∧ LR σ args us.toList ∧ LR σ cap cs.toList
  | .round k args h' => h' = h ∧ ∃ b κ, ∃ us : List Value, σ k = some (b, κ) ∧ s.run P w = (Instr.yield b us.toArray).run P w ∧ LR σ args us

theorem bytesA_sound (hr : HR B σ h.heap.get h.next w) {s d : TypeId} {x x' v : Value} {h' : H} (hx : VR σ x x') (hs : bytesA P h s d x = some (v, h')) :
    ∃ u w' σ', (convert s d x').run P w = .ok u w' ∧ VR σ' v u ∧ Step B σ h.heap.get h.next w σ' h'.heap.get h'.next w' := by
  unfold bytesA at hs
  split at hs
  · rename_i e s0 hu hd
    have e0 := hx.atom_inv rfl
    subst e0
    split at hs
    · rename_i he
      split at hs
      · rename_i c hc
        split at hs
        · rename_i k h1 hnew
          simp only [Option.some.injEq, Prod.mk.injEq] at hs
          obtain ⟨rfl, rfl⟩ := hs
          obtain ⟨rfl, e2, e3, e4⟩ := H.new_inv hnew
          have hge : s0.size ≤ grownCap w s0.size 0 e := grownCap_ge w s0.size 0 e
          generalize hcap : grownCap w s0.size 0 e = cap at hge
          have hdl : (s0.data.map fun b => Value.int .u8 b.toNat).size = s0.size := by rw [Array.size_map]; rfl
          let cells : Array Value := (s0.data.map fun b => Value.int .u8 b.toNat) ++ Array.replicate (cap - s0.size) (.int .u8 0)
          have hcs : cells.size = cap := by simp only [cells, Array.size_append, hdl, Array.size_replicate]; omega
          have hrun : (convert s d (.string s0)).run P w = .ok (.slice (some ⟨w.heap.size, 0, none⟩) s0.size cap) (w.drew.alloc (.cells cells e (cap, cap + 1))) := by
            have h1 : (convert s d (.string s0)).run P w = (Conv.stringToBytes e s0).run P w := by
              simp [convert, run_underlying hu, run_underlying hd, run_underlying he]
            rw [h1]
            have hch : (choose (.appendCap s0.size 0 e)).run P w = .ok cap w.drew := by
              rw [← hcap]; simp [grownCap, Question.forced]
            have hsh : ∀ w2 : World, (w2.alloc (.cells cells e)).shape? w2.heap.size = some (e, cap) := fun w2 => by
              have e1 : (w2.alloc (.cells cells e)).heap[w2.heap.size]? = some (.cells cells e) := by rw [show (w2.alloc (.cells cells e)).heap = w2.heap.push (.cells cells e) from rfl]; simp
              simp only [World.shape?, e1, hcs]
            have hfz : ∀ w2 : World, (w2.alloc (.cells cells e)).freeze ⟨w2.heap.size, cap, none⟩ 1 = w2.alloc (.cells cells e (cap, cap + 1)) := fun w2 => by
              unfold World.freeze World.alloc
              simp only [Nat.one_ne_zero, if_false]
              congr 1
              apply Array.ext_getElem?
              intro j
              rw [Array.getElem?_modify, Array.getElem?_push, Array.getElem?_push]
              by_cases hj : w2.heap.size = j
              · subst hj; simp
              · simp [hj, Ne.symm hj]
            unfold Conv.stringToBytes
            simp only [Sem.run_bind, hch, Result.andThen_ok, newRow, run_newObj_alloc, Sem.run_pure]
            have hmk : (markStringish ⟨w.heap.size, 0, none⟩).run P (w.drew.alloc (.cells cells e)) = .ok () (w.drew.alloc (.cells cells e (cap, cap + 1))) := by
              have h2 := hsh w.drew
              have h3 := hfz w.drew
              rw [show w.drew.heap.size = w.heap.size from rfl] at h2 h3
              have h4 : (shape w.heap.size).run P (w.drew.alloc (.cells cells e)) = .ok (some (e, cap)) (w.drew.alloc (.cells cells e)) := by
                show (Sem.shape w.heap.size Sem.pure).run P _ = _
                simp only [Sem.run, h2]
              have h5 : (freeze ⟨w.heap.size, cap, none⟩ 1).run P (w.drew.alloc (.cells cells e)) = .ok () (w.drew.alloc (.cells cells e (cap, cap + 1))) := by
                show (Sem.freeze _ _ (Sem.pure ())).run P _ = _
                simp only [Sem.run, h3]
              unfold markStringish
              simp only [Sem.run_bind, h4, Result.andThen_ok, h5]
            simp only [show w.drew.heap.size = w.heap.size from rfl]
            rw [show (Array.map (fun b => Value.int .u8 b.toNat) s0.data ++ Array.replicate (cap - s0.size) (.int .u8 0)) = cells from rfl]
            rw [hmk]
            simp
          refine ⟨_, _, σ.set h.next w.heap.size cap, hrun, ?_, ?_⟩
          · have := VR.loose (σ := σ.set h.next w.heap.size cap) (k := h.next) (b := w.heap.size) (κ := cap) (o := 0) (d := 0) (n := s0.size) (Sg.set_same _ _ _ _) (by omega)
            simpa using this
          · rw [e2]
            refine hr.newB (o := .row s0.size c (.int .u8 0) e (some 1) true) (w' := w.drew.alloc (.cells cells e (cap, cap + 1))) rfl rfl rfl rfl ⟨cells, (cap, cap + 1), rfl, by omega, fun j hj => ?_, fun q hq => by injection hq with hq; subst hq; rw [hcs]; omega, fun _ j hj => by simp; omega, fun hq => by cases hq⟩ e3 e4
            have hbl : (byteVals s0 s0.size).length = s0.size := by rw [byteVals_eq, byteCells_length]
            have h1 := T.get_setMany (byteVals s0 s0.size) .leaf c 0 hc j
            rw [if_pos ⟨Nat.zero_le _, by omega⟩, Nat.sub_zero] at h1
            have hj' : j < s0.data.size := hj
            have h3 : (byteVals s0 s0.size)[j]? = some (.int .u8 (s0.data[j].toNat : Int)) := by
              rw [byteVals_eq]
              unfold byteCells
              rw [List.getElem?_map, Array.getElem?_toList, Array.getElem?_eq_getElem hj']
              rfl
            refine ⟨.int .u8 (s0.data[j].toNat : Int), ?_, ?_⟩
            · simp only [cells]
              rw [Array.getElem?_append, hdl, if_pos hj, Array.getElem?_map, Array.getElem?_eq_getElem hj']
              rfl
            · unfold cellAt
              rw [h1, h3]
              exact .atom rfl
        · cases hs
      · cases hs
    · cases hs
  · cases hs

theorem clear_sound (hr : HR B σ h.heap.get h.next w) {t ty e : TypeId} {k off n c : Nat} {sp : Option Nat} {z x' : Value} {h' : H} (hu : P.underlying t = some (.slice e)) (hz : zeroOf P e = some z) (hf : flatN 6 z = true) (hz1 : 1 ≤ (vcells z).length)
    (hx : VR σ (.slice (some ⟨k, off, sp⟩) n c) x') (hw : writeN h k off (repeatCells (vcells z) n) = some h') :
    ∃ w', (Builtin.clear_ #[t] ty #[x']).run P w = .ok (.tuple #[]) w' ∧ Step B σ h.heap.get h.next w σ h'.heap.get h'.next w' := by
  obtain ⟨b, κ, o, c', hσ, rfl, ho⟩ := hx.any_slice
  obtain ⟨g1, g2, g3, g4⟩ := writeN_sound hr hw hσ (LR.repeat ((VR.same (σ := σ) 6 _ hf).cells) n)
  have hzc : (Builtin.zeroCells z.cells n).toList = repeatCells (vcells z) n := by
    unfold Builtin.zeroCells
    rw [← vcells_eq]
    exact made_eq z.cells n (.inl (by rw [← vcells_eq] at hz1; simp at hz1; omega))
  by_cases h0 : n = 0
  · subst h0
    exact ⟨w, by simp [Builtin.clear_, run_underlying hu], g4⟩
  · have := ho (by omega)
    subst this
    have hst := run_storeCells_cells (P := P) b o (repeatCells (vcells z) n) 0 w (by simpa using g1) (by simpa using g2) g3
    simp only [Nat.add_zero] at hst
    obtain ⟨m, rfl⟩ : ∃ m, n = m + 1 := ⟨n - 1, by omega⟩
    exact ⟨_, by simp [Builtin.clear_, run_underlying hu, zeroOf_run hz, hzc, hst], g4⟩

theorem callee_run {tab : Tab} (ht : TabOk P tab) {i : FuncId} {x : FX} {c : Code} (h1 : tab i = some x) (h2 : x.fn.body = some c) (args : Array Value) : (callFunc i args).run P w = .ok (.enter i args) w := by
  obtain ⟨a1, a2, _⟩ := ht i x h1
  have a3 : ¬ x.fn.name = "runtime.NumGoroutine" := by simpa using a2
  simp [callFunc, a1, a3, h2]

theorem calleeA_sound {tab : Tab} (ht : TabOk P tab) (hr : HR B σ h.heap.get h.next w) {i : FuncId} {args us : List Value} {s : Sem Next} {r : AN} (hl : LR σ args us) (hs : s.run P w = (callFunc i us.toArray).run P w) (hc : calleeA P tab i args h = some r) :
    ANR P B σ h w s r := by
  unfold calleeA at hc
  split at hc
  · rename_i fn hfn
    split at hc
    · rename_i c hb
      injection hc with hc; subst hc
      exact ⟨rfl, us, by rw [hs, callee_run ht hfn hb], hl⟩
    · cases hf : args.all (flatN 1) with
      | false => rw [hf] at hc; cases hc
      | true =>
        rw [hf] at hc
        simp only [cond_true] at hc
        split at hc
        · rename_i v hv
          cases hf2 : flatN 1 v with
          | false => rw [hf2] at hc; cases hc
          | true =>
            rw [hf2] at hc
            simp only [cond_true, Option.some.injEq] at hc
            subst hc
            have e := hl.flat hf
            subst e
            exact ⟨v, w, σ, by rw [hs]; exact pureRun_run hv w, VR.same 1 _ hf2, Step.refl hr⟩
        · cases hc
  · cases hc
end
end Go.Proofs.YtflnpcgnenhogaaDoor.ev

namespace Go.Proofs.YtflnpcgnenhogaaDoor.ev
open Go Go.RowKit

section
variable {B : Nat} {P : Program} {σ : Sg} {h : H} {w : World}

theorem callMethod_run {t : TypeId} {name : String} {i : FuncId} (hm : methodA P t name = some i) (v : Value) (args : Array Value) : (callMethod (.iface t v) name args).run P w = (callFunc i (#[v] ++ args)).run P w := by
  have h1 : (method (P.types.size + Made.depth) t v name).run P w = .ok (i, v) w := method_run hm (P.types.size + 99) v
  simp [callMethod, h1]

theorem xw_sound {tab : Tab} (ht : TabOk P tab) (hr : HR B σ h.heap.get h.next w) {o : Oper} {g : Nat → Value} {a : Act} {r : AN} (hg : ∀ x ∈ o.op.operands.toList, VO σ g a x) (hx : xw P tab o g h = some r) :
    ANR P B σ h w (execOp a.eval o) r := by
  obtain ⟨dst, op, type, pos, after, guard⟩ := o
  unfold xw stW at hx
  simp only at hg hx
  split at hx <;> dsimp only at hx
  · rename_i t x y
    split at hx
    · rename_i p v hp hv
      unfold ho at hx
      split at hx
      · rename_i h1 hs
        injection hx with hx; subst hx
        obtain ⟨w', c1, c2⟩ := storeA_sound (P := P) hr (hg x (by simp [Op.operands]) _ hp) (hg y (by simp [Op.operands]) _ hv) hs
        exact ⟨w', σ, by simp [execOp, c1], c2⟩
      · cases hx
    · cases hx
  · rename_i t m k x
    split at hx
    · rename_i p q v hp hq hv
      unfold ho at hx
      split at hx
      · rename_i h1 hs
        injection hx with hx; subst hx
        obtain ⟨w', c1, c2⟩ := mapUpdateA_sound (P := P) hr (hg m (by simp [Op.operands]) _ hp) (hg k (by simp [Op.operands]) _ hq) (hg x (by simp [Op.operands]) _ hv) hs
        exact ⟨w', σ, by simp [execOp, c1], c2⟩
      · cases hx
    · cases hx
  · rename_i t m k x
    split at hx
    · rename_i p q v hp hq hv
      unfold ho at hx
      split at hx
      · rename_i h1 hs
        injection hx with hx; subst hx
        obtain ⟨w', c1, c2⟩ := mapUpdateA_sound (P := P) hr (hg m (by simp [Op.operands]) _ hp) (hg k (by simp [Op.operands]) _ hq) (hg x (by simp [Op.operands]) _ hv) hs
        exact ⟨w', σ, by simp [execOp, c1], c2⟩
      · cases hx
    · cases hx
  · rename_i c
    split at hx
    · rename_i args hargs
      have hl : LR σ args (c.args.map a.eval).toList := by
        rw [show (c.args.map a.eval).toList = c.args.toList.map a.eval by simp]
        exact opvs_sound (fun x hx => hg x (by simp [Op.operands, Call.operands]; exact .inr (by simpa using hx))) hargs
      have hcal : ∀ r, (c.callee = .value r ∨ ∃ n, c.callee = .invoke r n) → VO σ g a r := fun r hr' => hg r (by
        rcases hr' with h | ⟨n, h⟩ <;> simp [Op.operands, Call.operands, h])
      obtain ⟨callee, args0, ats⟩ := c
      simp only at hx hl hcal hargs
      have hat : (args0.map a.eval) = (args0.map a.eval).toList.toArray := by apply Array.ext'; rfl
      split at hx
      · rename_i b
        split at hx
        · rename_i t tx s x hts
          unfold vh at hx
          split at hx
          · rename_i v h1 hs
            injection hx with hx; subst hx
            obtain ⟨s', us, e1, e2, e3⟩ := hl.cons_inv
            obtain ⟨x', us', e4, e5, e6⟩ := e3.cons_inv
            have e7 := e6.nil_inv
            subst e7; subst e4
            obtain ⟨u, w', σ', c1, c2, c3⟩ := appendA_sound (P := P) (ty := type) hr e2 e5 hs
            have e8 : args0.map a.eval = #[s', x'] := by rw [hat, e1]
            have e9 : ats = #[t, tx] := by apply Array.ext'; rw [hts]
            exact ⟨u, w', σ', by simp [execOp, resolve, invoke, builtin, e8, e9, c1], c2, c3⟩
          · cases hx
        · rename_i t tx d x hts
          unfold vh at hx
          split at hx
          · rename_i v h1 hs
            injection hx with hx; subst hx
            obtain ⟨s', us, e1, e2, e3⟩ := hl.cons_inv
            obtain ⟨x', us', e4, e5, e6⟩ := e3.cons_inv
            have e7 := e6.nil_inv
            subst e7; subst e4
            obtain ⟨u, w', c1, c2, c3⟩ := copyA_sound (P := P) (tx := tx) (ty := type) hr e2 e5 hs
            have e8 : args0.map a.eval = #[s', x'] := by rw [hat, e1]
            have e9 : ats = #[t, tx] := by apply Array.ext'; rw [hts]
            exact ⟨u, w', σ, by simp [execOp, resolve, invoke, builtin, e8, e9, c1], c2, c3⟩
          · cases hx
        · rename_i t tk m k hts
          split at hx
          · rename_i h1 hs
            injection hx with hx; subst hx
            obtain ⟨s', us, e1, e2, e3⟩ := hl.cons_inv
            obtain ⟨x', us', e4, e5, e6⟩ := e3.cons_inv
            have e7 := e6.nil_inv
            subst e7; subst e4
            obtain ⟨w', c1, c3⟩ := deleteA_sound (P := P) (tk := tk) (ty := type) hr e2 e5 hs
            have e8 : args0.map a.eval = #[s', x'] := by rw [hat, e1]
            have e9 : ats = #[t, tk] := by apply Array.ext'; rw [hts]
            exact ⟨.tuple #[], w', σ, by simp [execOp, resolve, invoke, builtin, e8, e9, c1], VR.same 1 _ rfl, c3⟩
          · cases hx
        · rename_i t k off sp n c0 hts
          split at hx
          · rename_i e hu
            split at hx
            · rename_i z hz
              cases hf : flatN 6 z && Nat.ble 1 (vcells z).length with
              | false => rw [hf] at hx; cases hx
              | true =>
                rw [hf] at hx
                simp only [cond_true] at hx
                simp only [Bool.and_eq_true] at hf
                split at hx
                · rename_i h1 hw
                  injection hx with hx; subst hx
                  obtain ⟨s', us, e1, e2, e3⟩ := hl.cons_inv
                  have e7 := e3.nil_inv
                  subst e7
                  obtain ⟨w', c1, c3⟩ := clear_sound (P := P) (ty := type) hr hu hz hf.1 (ble_of hf.2) e2 hw
                  have e8 : args0.map a.eval = #[s'] := by rw [hat, e1]
                  have e9 : ats = #[t] := by apply Array.ext'; rw [hts]
                  exact ⟨.tuple #[], w', σ, by simp [execOp, resolve, invoke, builtin, e8, e9, c1], VR.same 1 _ rfl, c3⟩
                · cases hx
            · cases hx
          · cases hx
        · cases hx
      · rename_i r
        have hcr := hcal r (.inl rfl)
        split at hx
        · rename_i i first captured hv
          have h1 := hcr _ hv
          obtain ⟨ds, ds', e1, e2, e3⟩ := h1.func_inv rfl
          refine calleeA_sound ht hr (us := ds.toList ++ (args0.map a.eval).toList ++ ds'.toList) ((e2.append hl).append e3) ?_ hx
          have : (ds.toList ++ (args0.map a.eval).toList ++ ds'.toList).toArray = ds ++ args0.map a.eval ++ ds' := by apply Array.ext'; simp
          rw [this]
          simp [execOp, resolve, invoke, Deferred.ofValue, e1]
        · rename_i name first captured hv
          have h1 := hcr _ hv
          obtain ⟨ds, ds', e1, e2, e3⟩ := h1.func_inv rfl
          split at hx
          · rename_i t v rest hlist
            split at hx
            · rename_i i hm
              have h2 := e2.append hl
              rw [hlist] at h2
              obtain ⟨u, us, e4, e5, e6⟩ := h2.cons_inv
              obtain ⟨y, rfl, e7⟩ := e5.iface_inv
              refine calleeA_sound ht hr (us := y :: us) (LR.cons e7 e6) ?_ hx
              have h8 : ds ++ args0.map a.eval = (Value.iface t y :: us).toArray := by apply Array.ext'; rw [← e4]; simp
              simp only [execOp, resolve, e1, Deferred.ofValue, Sem.run_bind, Sem.run_pure, Result.andThen_ok]
              rw [h8]
              have h9 : (Value.iface t y :: us).toArray.extract 1 (Value.iface t y :: us).toArray.size = us.toArray := by apply Array.ext'; simp
              simp only [invoke]
              rw [show (Value.iface t y :: us).toArray[0]? = some (.iface t y) by simp]
              simp only [h9]
              rw [callMethod_run hm]
              congr 2
              apply Array.ext'; simp
            · cases hx
          · cases hx
        · rename_i k first captured hv
          cases hb : first.toList.isEmpty && captured.toList.isEmpty with
          | false => rw [hb] at hx; cases hx
          | true =>
            rw [hb] at hx
            simp only [cond_true, Option.some.injEq] at hx
            subst hx
            have h1 := hcr _ hv
            obtain ⟨b, κ, e1, e2⟩ := h1.yield_inv
            refine ⟨rfl, b, κ, (args0.map a.eval).toList, e1, ?_, hl⟩
            rw [← hat]
            simp [execOp, resolve, invoke, Deferred.ofValue, e2]
        · cases hx
      · rename_i r name
        have hcr := hcal r (.inr ⟨name, rfl⟩)
        split at hx
        · rename_i t v hv
          have h1 := hcr _ hv
          obtain ⟨y, e1, e2⟩ := h1.iface_inv
          split at hx
          · rename_i i hm
            refine calleeA_sound ht hr (us := y :: (args0.map a.eval).toList) (LR.cons e2 hl) ?_ hx
            simp only [execOp, resolve, e1, Sem.run_bind, Sem.run_pure, Result.andThen_ok, invoke]
            have h0 : (#[Value.iface t y] ++ args0.map a.eval)[0]? = some (.iface t y) := by rw [Array.getElem?_append_left (by simp)]; rfl
            have h9 : (#[Value.iface t y] ++ args0.map a.eval).extract 1 (#[Value.iface t y] ++ args0.map a.eval).size = args0.map a.eval := by
              apply Array.ext'
              simp
              rw [List.take_of_length_le (by simp)]
            rw [h0]
            simp only [h9]
            rw [callMethod_run hm]
            congr 2
            apply Array.ext'; simp
          · cases hx
        · cases hx
    · cases hx
  · rename_i s d x
    split at hx
    · rename_i p hp
      unfold vh at hx
      split at hx
      · rename_i v h1 hs
        injection hx with hx; subst hx
        obtain ⟨u, w', σ', c1, c2, c3⟩ := bytesA_sound (P := P) hr (hg x (by simp [Op.operands]) _ hp) hs
        exact ⟨u, w', σ', by simp [execOp, c1], c2, c3⟩
      · cases hx
    · cases hx
  · rename_i c
    split at hx
    · rename_i args hargs
      have hl : LR σ args (c.args.map a.eval).toList := by
        rw [show (c.args.map a.eval).toList = c.args.toList.map a.eval by simp]
        exact opvs_sound (fun x hx => hg x (by simp [Op.operands, Call.operands]; exact .inr (by simpa using hx))) hargs
      have hcal : ∀ r, (c.callee = .value r ∨ ∃ n, c.callee = .invoke r n) → VO σ g a r := fun r hr' => hg r (by
        rcases hr' with h | ⟨n, h⟩ <;> simp [Op.operands, Call.operands, h])
      obtain ⟨callee, args0, ats⟩ := c
      simp only at hx hl hcal hargs
      split at hx
      · rename_i r
        have hcr := hcal r (.inl rfl)
        split at hx
        · rename_i i first captured hv
          injection hx with hx; subst hx
          have h1 := hcr _ hv
          obtain ⟨ds, ds', e1, e2, e3⟩ := h1.func_inv rfl
          refine ⟨rfl, ds ++ args0.map a.eval, ds', ?_, by rw [Array.toList_append]; exact e2.append hl, e3⟩
          simp [execOp, resolve, Deferred.ofValue, e1]
        · cases hx
      · cases hx
    · cases hx
  · cases hx
end
end Go.Proofs.YtflnpcgnenhogaaDoor.ev

namespace Go.Proofs.YtflnpcgnenhogaaDoor.ev
open Go Go.RowKit

def FW (r : Option Nat) : Fence := { Fence.wide with round := r }
theorem FW_none : FW none = Fence.wide := rfl
theorem FW_fn (r : Option Nat) (f : FuncId) : (FW r).fn f := trivial
theorem FW_depth (r : Option Nat) (n : Nat) : (FW r).depth.isSome = true → 1 ≤ n := fun h => by simp [FW, Fence.wide] at h
theorem callsIn_any {r r' : Option Nat} {n n' : Nat} {P : Program} {f : FuncId} {args : Array Value} {w : World} {R : Ending → World → Prop} (h : CallsIn (FW r) n P f args w R) : CallsIn (FW r') n' P f args w R :=
  ⟨trivial, fun cs _ => h.2 cs (fun d hd => by simp [FW, Fence.wide] at hd)⟩

section
variable {B : Nat} {P : Program} {σ : Sg} {h : H} {w : World}

def DR (σ : Sg) : List DE → List Deferred → Prop
  | [], ds => ds = []
  | .call g args cap :: es, ds => ∃ us cs ds', ds = { target := .fn (.func g) cs, args := us } :: ds' ∧ LR σ args us.toList ∧ LR σ cap cs.toList ∧ DR σ es ds'
  | .mark k :: es, ds => ∃ b κ ds', ds = { target := .collected b, args := #[] } :: ds' ∧ σ k = some (b, κ) ∧ DR σ es ds'
theorem DR.mono {σ σ' : Sg} (hs : σ.le σ') : ∀ {es : List DE} {ds : List Deferred}, DR σ es ds → DR σ' es ds
  | [], _, h => h
  | .call _ _ _ :: _, _, ⟨us, cs, ds', h1, h2, h3, h4⟩ => ⟨us, cs, ds', h1, h2.mono hs, h3.mono hs, DR.mono hs h4⟩
  | .mark _ :: _, _, ⟨b, κ, ds', h1, h2, h3⟩ => ⟨b, κ, ds', h1, hs _ _ h2, DR.mono hs h3⟩

def RR (σ : Sg) : Option Nat → Option Nat → Prop
  | none, r => r = none
  | some k, r => ∃ b κ, r = some b ∧ σ k = some (b, κ)
theorem RR.mono {σ σ' : Sg} (hs : σ.le σ') {x r : Option Nat} (h : RR σ x r) : RR σ' x r := by
  cases x with
  | none => exact h
  | some k => obtain ⟨b, κ, h1, h2⟩ := h; exact ⟨b, κ, h1, hs _ _ h2⟩

structure FR (σ : Sg) (f : F) (a : Act) (r : Option Nat) : Prop where
  size : a.tmps.size = f.sz
  slot : ∀ i, VR σ (f.get i) (a.tmps.getD i undef)
  ds : DR σ f.ds a.defers
  rd : RR σ f.rd r
theorem FR.mono {σ σ' : Sg} (hs : σ.le σ') {f : F} {a : Act} {r : Option Nat} (h : FR σ f a r) : FR σ' f a r := ⟨h.size, fun i => (h.slot i).mono hs, h.ds.mono hs, h.rd.mono hs⟩

theorem undef_flat : flatN 1 undef = true := rfl
theorem VR.undef {σ : Sg} : VR σ undef undef := VR.same 1 _ undef_flat

theorem put_inv {f f' : F} {dst : Option Tmp} {v : Value} (h : f.put dst v = some f') : f'.sz = f.sz ∧ f'.ds = f.ds ∧ f'.rd = f.rd ∧ (∀ d, dst = some d → d < f.sz) ∧ ∀ i, f'.get i = if dst = some i then v else f.get i := by
  obtain ⟨sz, t, ds, rd⟩ := f
  cases dst with
  | none =>
    have h : some (⟨sz, t, ds, rd⟩ : F) = some f' := h
    injection h with h; subst h
    exact ⟨rfl, rfl, rfl, (fun d hd => by cases hd), (fun i => by simp)⟩
  | some d =>
    have h : @Bool.rec (fun _ => Option F) none (T.setK 40 t v d fun t' => some ⟨sz, t', ds, rd⟩) (Nat.blt d sz) = some f' := h
    cases hb : Nat.blt d sz with
    | false => rw [hb] at h; cases h
    | true =>
      rw [hb] at h
      obtain ⟨t1, h1, h2⟩ := T.setK_inv (d := 40) v t d (fun t' => some (⟨sz, t', ds, rd⟩ : F)) h
      injection h2 with h2; subst h2
      refine ⟨rfl, rfl, rfl, fun d' hd' => by injection hd' with hd'; subst hd'; exact blt_of hb, fun i => ?_⟩
      rw [F.get_eq, F.get_eq]
      simp only [h1 i]
      by_cases hi : i = d
      · subst hi; simp
      · rw [if_neg hi, if_neg (by intro h; injection h with h; exact hi h.symm)]

theorem getD_put (a : Act) (dst : Option Tmp) (u : Value) (hd : ∀ d, dst = some d → d < a.tmps.size) (i : Nat) : (a.put dst u).tmps.getD i undef = if dst = some i then u else a.tmps.getD i undef := by
  cases dst with
  | none => simp [Act.put]
  | some d =>
    have hlt := hd d rfl
    simp only [Act.put]
    by_cases hi : d = i
    · subst hi
      simp [hlt]
    · rw [if_neg (by intro h; injection h with h; exact hi h)]
      simp [Array.getElem?_setIfInBounds_ne hi]

theorem FR.put {σ : Sg} {f f' : F} {a : Act} {r : Option Nat} (hf : FR σ f a r) {dst : Option Tmp} {v u : Value} (hp : f.put dst v = some f') (hv : VR σ v u) : FR σ f' (a.put dst u) r := by
  obtain ⟨h1, h2, h3, h4, h5⟩ := put_inv hp
  have hd : ∀ d, dst = some d → d < a.tmps.size := fun d hd => by rw [hf.size]; exact h4 d hd
  refine ⟨?_, fun i => ?_, ?_, by rw [h3]; exact hf.rd⟩
  · rw [h1, ← hf.size]
    cases dst <;> simp [Act.put]
  · rw [h5 i, getD_put a dst u hd i]
    by_cases hi : dst = some i
    · rw [if_pos hi, if_pos hi]; exact hv
    · rw [if_neg hi, if_neg hi]; exact hf.slot i
  · rw [h2]
    cases dst <;> exact hf.ds

theorem FR.vo {σ : Sg} {f : F} {a : Act} {r : Option Nat} (hf : FR σ f a r) (hgl : ∀ i, i < 1000 → σ i = some (i, 0)) (x : Operand) : VO σ f.get a x := VO.of hgl x fun t _ => hf.slot t

theorem bool_back {σ : Sg} {v : Value} {b : Bool} (h : VR σ v (.bool b)) : v = .bool b := by
  cases h with
  | atom h => rfl

theorem wantedA_eq {σ : Sg} {ops : Array Oper} {o : Oper} {g : Nat → Value} {a : Act} (hg : ∀ j want p d, o.guard = some (j, want) → ops[j]? = some p → p.dst = some d → VR σ (g d) (a.tmps.getD d undef)) :
    wantedA ops o g = Region.wanted o (yielded ops a.tmps) := by
  unfold wantedA Region.wanted
  cases hgd : o.guard with
  | none => rfl
  | some jw =>
    obtain ⟨j, want⟩ := jw
    simp only
    unfold yielded
    cases hj : ops[j]? with
    | none => rfl
    | some p =>
      simp only [Option.bind_some]
      cases hd : p.dst with
      | none => rfl
      | some d =>
        simp only [Option.bind_some]
        have hv := hg j want p d hgd hj hd
        cases ht : a.tmps[d]? with
        | none =>
          have : a.tmps.getD d undef = undef := by simp [ht]
          rw [this] at hv
          have hnb : ∀ b, g d ≠ .bool b := fun b hb => by rw [hb] at hv; have := hv.atom_inv rfl; simp [undef] at this
          cases hgd' : g d <;> first | rfl | exact absurd hgd' (hnb _)
        | some u =>
          have : a.tmps.getD d undef = u := by simp [ht]
          rw [this] at hv
          cases u with
          | bool b => rw [bool_back hv]; simp
          | _ =>
            have hnb : ∀ b, g d ≠ .bool b := fun b hb => by rw [hb] at hv; have := hv.atom_inv rfl; simp at this
            cases hgd' : g d <;> first | rfl | exact absurd hgd' (hnb _)

/-! ### what the walk of a body must be -/
def XR : X → Exit → Prop
  | .normal, e => e = .normal
  | .exit id, e => e = .exit id
  | .ret, e => e = .ret
def Post (B : Nat) (σ : Sg) (h : H) (w : World) (r : Option Nat) (x : X) (f' : F) (h' : H) : Exit → Act → World → Prop := fun e a' w' =>
  XR x e ∧ ∃ σ', FR σ' f' a' r ∧ Step B σ h.heap.get h.next w σ' h'.heap.get h'.next w'
def RecOk (P : Program) (rec : Code → F → H → Option R) : Prop :=
  ∀ (c : Code) (f : F) (h : H) (x : X) (f' : F) (h' : H), rec c f h = some ⟨x, f', h'⟩ → ∀ (B : Nat) (σ : Sg) (a : Act) (w : World) (r : Option Nat) (n : Nat), FR σ f a r → HR B σ h.heap.get h.next w →
    c.wpIn (FW r) n P (Post B σ h w r x f' h') a w

theorem loadAt_of {p : Value} {t : TypeId} {x : Value} (h : (Instr.loadAt t p).run P w = .ok x w) (hp : ∃ a, p = .pointer (some a)) : (do loadVar t (← asAddr p) : Sem Value).run P w = .ok x w := by
  obtain ⟨a, rfl⟩ := hp
  simpa [Instr.loadAt, Instr.sureAddr, asAddr] using h

def rv (tmps : Array Value) : ResultVar → Sem Value
  | .tmp t => pure (tmps.getD t undef)
  | .cell a t => do loadVar t (← asAddr (tmps.getD a undef))
theorem results_eq (fn : Func) (tmps : Array Value) : results fn tmps = (do
    let vs ← fn.results.mapM (rv tmps)
    pure (if h : vs.size = 1 then vs[0] else .tuple vs)) := by
  unfold results
  congr 1
theorem resOf_sound (hr : HR B σ h.heap.get h.next w) {f : F} {a : Act} {r : Option Nat} (hf : FR σ f a r) : ∀ {rs : List ResultVar} {l : List Value}, resOf P f h rs = some l →
    ∃ us : List Value, (rs.mapM (rv a.tmps)).run P w = .ok us w ∧ LR σ l us
  | [], l, hl => by simp only [resOf, Option.some.injEq] at hl; subst hl; exact ⟨[], by simp, LR.nil⟩
  | .tmp t :: rs, l, hl => by
    simp only [resOf] at hl
    split at hl
    · rename_i l' hl'
      injection hl with hl; subst hl
      obtain ⟨us, h1, h2⟩ := resOf_sound hr hf hl'
      refine ⟨a.tmps.getD t undef :: us, ?_, LR.cons (hf.slot t) h2⟩
      simp only [List.mapM_cons, rv, Sem.run_bind, Sem.run_pure, Result.andThen_ok, h1]
    · cases hl
  | .cell a' t :: rs, l, hl => by
    simp only [resOf] at hl
    split at hl
    · rename_i v hv
      split at hl
      · rename_i l' hl'
        injection hl with hl; subst hl
        obtain ⟨us, h1, h2⟩ := resOf_sound hr hf hl'
        obtain ⟨x, h3, h4⟩ := loadA_sound (P := P) hr hv (hf.slot a')
        have hp : ∃ q, a.tmps.getD a' undef = .pointer (some q) := by
          unfold loadA at hv
          have hs := hf.slot a'
          split at hv
          · rename_i k off he
            rw [he] at hs
            obtain ⟨b, κ, _, e⟩ := hs.ptr_inv
            exact ⟨_, e⟩
          · cases hv
        have h5 := loadAt_of h3 hp
        refine ⟨x :: us, ?_, LR.cons h4 h2⟩
        simp only [List.mapM_cons]
        rw [Sem.run_bind, show (rv a.tmps (.cell a' t)) = (do loadVar t (← asAddr (a.tmps.getD a' undef)) : Sem Value) from rfl, h5]
        simp only [Result.andThen_ok, Sem.run_bind, h1, Sem.run_pure]
      · cases hl
    · cases hl

theorem results_sound (hr : HR B σ h.heap.get h.next w) {f : F} {a : Act} {r : Option Nat} (hf : FR σ f a r) {fn : Func} {l : List Value} (hl : resOf P f h fn.results.toList = some l) :
    ∃ u, (results fn a.tmps).run P w = .ok u w ∧ VR σ (resV l) u := by
  obtain ⟨us, h1, h2⟩ := resOf_sound (P := P) hr hf hl
  have h3 : (fn.results.mapM (rv a.tmps)).run P w = .ok us.toArray w := by
    rw [Array.mapM_eq_mapM_toList]
    rw [map_eq_pure_bind, Sem.run_bind, h1]
    rfl
  rw [results_eq, Sem.run_bind, h3]
  simp only [Result.andThen_ok, Sem.run_pure]
  refine ⟨_, rfl, ?_⟩
  cases l with
  | nil =>
    have := h2.nil_inv
    subst this
    exact VR.same 1 _ rfl
  | cons v l =>
    obtain ⟨u, us', rfl, h4, h5⟩ := h2.cons_inv
    cases l with
    | nil =>
      have := h5.nil_inv
      subst this
      exact h4
    | cons v2 l =>
      obtain ⟨u2, us2, rfl, h6, h7⟩ := h5.cons_inv
      simp only [resV]
      rw [dif_neg (by simp)]
      exact (LR.cons h4 (LR.cons h6 h7)).tuple
end
end Go.Proofs.YtflnpcgnenhogaaDoor.ev

namespace Go.Proofs.YtflnpcgnenhogaaDoor.ev
open Go Go.RowKit

section
variable {B : Nat} {P : Program} {σ : Sg} {h : H} {w : World} {tab : Tab} {rec : Code → F → H → Option R}

theorem initF_sound {n : Nat} {args us : List Value} {f : F} (hi : initF n args = some f) (hl : LR σ args us) : FR σ f { tmps := us.toArray ++ Array.replicate (n - us.toArray.size) undef, defers := [] } none := by
  unfold initF at hi
  cases hb : Nat.ble args.length n with
  | false => rw [hb] at hi; cases hi
  | true =>
    rw [hb] at hi
    simp only [cond_true] at hi
    have hb := ble_of hb
    split at hi
    · rename_i t ht
      injection hi with hi; subst hi
      have hln := hl.1
      refine ⟨by simp; omega, fun i => ?_, rfl, rfl⟩
      have hg := T.get_setMany args .leaf t 0 ht i
      rw [F.get_eq]
      simp only [hg]
      by_cases hi : i < args.length
      · rw [if_pos ⟨Nat.zero_le _, by omega⟩, Nat.sub_zero]
        have h2 : args[i]? = some args[i] := List.getElem?_eq_getElem hi
        obtain ⟨u, h3, h4⟩ := hl.get h2
        rw [h2]
        have hiu : i < us.length := by omega
        have : (us.toArray ++ Array.replicate (n - us.toArray.size) undef).getD i undef = u := by
          have h5 : us[i] = u := by rw [List.getElem?_eq_getElem hiu] at h3; injection h3
          simp [Array.getElem?_append, hiu, h5]
        rw [this]
        exact h4
      · rw [if_neg (by omega)]
        have : (us.toArray ++ Array.replicate (n - us.toArray.size) undef).getD i undef = undef := by
          simp [Array.getElem?_append, show ¬ i < us.length by omega]
          rw [Array.getElem?_replicate]
          by_cases hq : i - us.length < n - us.length
          · rw [if_pos hq]; rfl
          · rw [if_neg hq]; rfl
        rw [this]
        simp only [T.get_leaf]
        exact VR.undef
    · cases hi

theorem deferA_sound (ht : TabOk P tab) (hrec : RecOk P rec) (hr : HR B σ h.heap.get h.next w) {g : FuncId} {args us : List Value} {h' : H} (hl : LR σ args us) (hd : deferA tab rec g args h = some h') (n : Nat) (u : FrameMode) :
    (callFunc g us.toArray).run P w = .ok (.enter g us.toArray) w ∧ CallsDIn (FW none) n P g us.toArray u w fun e u' w' => u' = u ∧ (∃ v, e = .returned v) ∧ ∃ σ', Step B σ h.heap.get h.next w σ' h'.heap.get h'.next w' := by
  unfold deferA at hd
  split at hd
  · rename_i fn hfn
    split at hd
    · rename_i c hb
      split at hd
      · rename_i f hf
        obtain ⟨a1, a2, _⟩ := ht g fn hfn
        have key : ∀ x ds rd sz t h1, rec c f h = some ⟨x, ⟨sz, t, [], rd⟩, h1⟩ → (x = .normal ∨ x = .ret) → (match fn.fn.results.toList with | [] => some h1 | _ => none) = some h' → ds = ([] : List DE) →
            CallsDIn (FW none) n P g us.toArray u w fun e u' w' => u' = u ∧ (∃ v, e = .returned v) ∧ ∃ σ', Step B σ h.heap.get h.next w σ' h'.heap.get h'.next w' := by
          intro x ds rd sz t h1 hrx hx hres _
          have hres' : fn.fn.results = #[] ∧ h1 = h' := by
            split at hres
            · rename_i hn; injection hres with hres; exact ⟨by apply Array.ext'; rw [hn], hres⟩
            · cases hres
          obtain ⟨hr0, rfl⟩ := hres'
          have hw := hrec c f h x _ h1 hrx B σ _ w none n (initF_sound hf hl) hr
          refine (callsDIn_of_wp (F := FW none) (u := u) (R := fun e w' => (∃ v, e = .returned v) ∧ ∃ σ', Step B σ h.heap.get h.next w σ' h1.heap.get h1.next w') a1 hb trivial (wpIn_mono hw ?_)).mono ?_
          · rintro e a' w' ⟨hxr, σ', hf', hst⟩
            have hnil : a'.defers = [] := hf'.ds
            rcases hx with rfl | rfl
            · have : e = .normal := hxr
              subst this
              exact ⟨hnil, .tuple #[], results_none hr0 _ _ _, ⟨_, rfl⟩, σ', hst⟩
            · have : e = .ret := hxr
              subst this
              exact ⟨hnil, .tuple #[], results_none hr0 _ _ _, ⟨_, rfl⟩, σ', hst⟩
          · rintro e u' w' ⟨h1, h2, h3⟩
            exact ⟨h1, h2, h3⟩
        refine ⟨callee_run ht hfn hb _, ?_⟩
        split at hd
        · rename_i sz t rd h1 hrx
          exact key .normal [] rd sz t h1 hrx (.inl rfl) hd rfl
        · rename_i sz t rd h1 hrx
          exact key .ret [] rd sz t h1 hrx (.inr rfl) hd rfl
        · cases hd
      · cases hd
    · cases hd
  · cases hd

theorem HR.putObj (hr : HR B σ h.heap.get h.next w) {k : Nat} {o o2 : AO} (hk : h.heap.get k = some o) (hd : o.isDead = false) (hro : o.ro = false) {b κ : Nat} (hs : σ k = some (b, κ)) {ob : Obj} (ho : ORel σ κ o2 ob) {h' : H} (hh : h.set k o2 = some h') :
    Step B σ h.heap.get h.next w σ h'.heap.get h'.next (w.putObj b ob) := by
  obtain ⟨e1, e2, e3⟩ := H.set_inv hh
  have hlt := hr.lt_of hk hd hs
  rw [e1]
  exact hr.write (o' := o2) (ob' := ob) (w' := w.putObj b ob) hk hd hro hs rfl rfl rfl (by simp) (World.putObj_heap_same hlt) (fun x hx => World.putObj_heap_other hx) ho e2 e3

theorem defersA_sound (ht : TabOk P tab) (hrec : RecOk P rec) {fn : Func} {tmps : Array Value} {R : Ending → World → Prop} {h' : H} (n : Nat) : ∀ (es : List DE) (ds : List Deferred) (σ : Sg) (h : H) (w : World), defersA tab rec es h = some h' → DR σ es ds → HR B σ h.heap.get h.next w →
    (∀ σ' w', σ.le σ' → Step B σ h.heap.get h.next w σ' h'.heap.get h'.next w' → ∃ v, (results fn tmps).run P w' = .ok v w' ∧ R (.returned v) w') → LeavesInM (FW none) n P fn tmps R ds .returning w
  | [], ds, σ, h, w, hd, hds, hr, hfin => by
    simp only [defersA, Option.some.injEq] at hd
    subst hd
    have : ds = [] := hds
    subst this
    exact hfin σ w (Sg.le.refl _) (Step.refl hr)
  | .call g args cap :: es, ds, σ, h, w, hd, hds, hr, hfin => by
    obtain ⟨us, cs, ds', rfl, h1, h2, h3⟩ := hds
    simp only [defersA] at hd
    split at hd
    · rename_i h1' hdef
      obtain ⟨c1, c2⟩ := deferA_sound ht hrec hr (us := us.toList ++ cs.toList) (h1.append h2) hdef (n - 1) .returning
      have harr : (us.toList ++ cs.toList).toArray = us ++ cs := by apply Array.ext'; simp
      rw [harr] at c1 c2
      refine ⟨by simp, .inr ⟨FW_depth none n, .func g, cs, g, us ++ cs, rfl, ?_, fun _ _ => trivial, c2.mono ?_⟩⟩
      · simp only [invoke]; exact c1
      · rintro e u' w' ⟨rfl, ⟨v, rfl⟩, σ', hst⟩
        exact defersA_sound ht hrec n es ds' σ' h1' w' hd (h3.mono (hst.le hr)) hst.hr fun σ2 w2 hle hst2 => hfin σ2 w2 ((hst.le hr).trans hle) (hst.trans hst2)
    · cases hd
  | .mark k :: es, ds, σ, h, w, hd, hds, hr, hfin => by
    obtain ⟨b, κ, ds', rfl, h1, h3⟩ := hds
    simp only [defersA] at hd
    split at hd
    · rename_i hk
      split at hd
      · rename_i h1' hset
        obtain ⟨b', κ', ob, e1, e2, e3, _⟩ := hr.live k _ hk rfl
        rw [h1] at e1; injection e1 with e1; injection e1 with e1 e4; subst e1; subst e4
        have e5 : ob = .deferred (some []) := e3
        subst e5
        have hst := hr.putObj (o2 := .defd true) (ob := .deferred none) hk rfl rfl h1 rfl hset
        refine ⟨by simp, .inl ⟨b, _, rfl, run_takeDeferred e2, ?_⟩⟩
        exact defersA_sound ht hrec n es ds' σ h1' _ hd h3 hst.hr fun σ2 w2 hle hst2 => hfin σ2 w2 hle (hst.trans hst2)
      · cases hd
    · cases hd

theorem callA_sound (ht : TabOk P tab) (hrec : RecOk P rec) (hr : HR B σ h.heap.get h.next w) {g : FuncId} {args us : List Value} {v : Value} {h' : H} (hl : LR σ args us) (hc : callA P tab rec g args h = some (v, h')) (n : Nat) :
    CallsIn (FW none) n P g us.toArray w (CallPost B σ h w v h') := by
  unfold callA at hc
  split at hc
  · rename_i fn hfn
    obtain ⟨a1, a2, a3⟩ := ht g fn hfn
    split at hc
    · rename_i r hans
      split at hans
      · rename_i t ht'
        rw [hc] at hans
        exact (a3 t ht').1 args h v h' hans B σ us w n hr hl
      · cases hans
    · split at hc
      · rename_i c hb
        split at hc
        · rename_i f hf
          have key : ∀ x f' h1, rec c f h = some ⟨x, f', h1⟩ → (x = .normal ∨ x = .ret) → (match defersA tab rec f'.ds h1 with
              | some h' => (match resOf P f' h' fn.fn.results.toList with | some l => some (resV l, h') | none => none)
              | none => none) = some (v, h') → CallsIn (FW none) n P g us.toArray w (CallPost B σ h w v h') := by
            intro x f' h1 hrx hx hres
            split at hres
            · rename_i h2 hdef
              split at hres
              · rename_i l hl'
                simp only [Option.some.injEq, Prod.mk.injEq] at hres
                obtain ⟨rfl, rfl⟩ := hres
                have hw := hrec c f h x _ h1 hrx B σ _ w none n (initF_sound hf hl) hr
                refine callsIn_of_wp_marks a1 hb trivial (wpIn_mono hw ?_)
                rintro e a' w' ⟨hxr, σ', hf', hst⟩
                have hle := hst.le hr
                have hleave : LeavesInM (FW none) n P fn.fn a'.tmps (CallPost B σ h w (resV l) h2) a'.defers .returning w' :=
                  defersA_sound ht hrec n f'.ds a'.defers σ' h1 w' hdef hf'.ds hst.hr fun σ2 w2 hle2 hst2 => by
                    obtain ⟨u, b1, b2⟩ := results_sound (P := P) hst2.hr (hf'.mono hle2) hl'
                    exact ⟨u, b1, u, σ2, rfl, b2, hst.trans hst2⟩
                rcases hx with rfl | rfl
                · have : e = .normal := hxr
                  subst this
                  exact hleave
                · have : e = .ret := hxr
                  subst this
                  exact hleave
              · cases hres
            · cases hres
          split at hc
          · rename_i f' h1 hrx
            exact key .normal f' h1 hrx (.inl rfl) hc
          · rename_i f' h1 hrx
            exact key .ret f' h1 hrx (.inr rfl) hc
          · cases hc
        · cases hc
      · cases hc
  · cases hc

theorem setParams_sound : ∀ {ts : List Tmp} {vs us : List Value} {f f' : F} {a : Act} {r : Option Nat}, FR σ f a r → LR σ vs us → setParams ts vs f = some f' →
    ts.length = us.length ∧ FR σ f' { a with tmps := (ts.zip us).foldl (fun tmps (t, x) => tmps.setIfInBounds t x) a.tmps } r
  | [], [], us, f, f', a, r, hf, hl, h => by
    simp only [setParams, Option.some.injEq] at h; subst h
    have := hl.nil_inv
    subst this
    exact ⟨rfl, hf⟩
  | [], _ :: _, _, _, _, _, _, _, _, h => by simp [setParams] at h
  | _ :: _, [], _, _, _, _, _, _, _, h => by simp [setParams] at h
  | t :: ts, v :: vs, us, f, f', a, r, hf, hl, h => by
    obtain ⟨u, us', rfl, h1, h2⟩ := hl.cons_inv
    simp only [setParams] at h
    split at h
    · rename_i f1 hp
      obtain ⟨b1, b2⟩ := setParams_sound (hf.put hp h1) h2 h
      exact ⟨by simp [b1], b2⟩
    · cases h

theorem HR.loopAt (hr : HR B σ h.heap.get h.next w) {k : Nat} {st : LoopState} {pd : Option Code} {f : F} {ps : List Tmp} {assign body : Code} {db : Nat} (hk : h.heap.get k = some (.loop st pd f ps assign body db)) {b κ : Nat} (hs : σ k = some (b, κ)) :
    ∃ l : Loop, w.heap[b]? = some (.loop l) ∧ l.state = st ∧ l.pending = pd ∧ l.params.toList = ps ∧ l.assign = assign ∧ l.body = body ∧ (∃ κ', σ db = some (l.defers, κ')) ∧ l.tmps.size = f.sz ∧ ∀ i, VR σ (f.get i) (l.tmps.getD i undef) := by
  obtain ⟨b', κ', ob, e1, e2, ⟨l, rfl, h2⟩, _⟩ := hr.live k _ hk rfl
  rw [hs] at e1; injection e1 with e1; injection e1 with e1 e3; subst e1
  exact ⟨l, e2, h2⟩

theorem roundA_sound (hrec : RecOk P rec) (hr : HR B σ h.heap.get h.next w) {k : Nat} {args us : List Value} {v : Value} {h' : H} (hl : LR σ args us) (hc : roundA rec k args h = some (v, h')) {b κ : Nat} (hs : σ k = some (b, κ)) (r : Option Nat) (n : Nat) :
    ∃ l : Loop, ∃ tmps, (Instr.yield b us.toArray).run P w = .ok (.round b l.fn tmps l.assign l.body) w ∧ RoundIn (FW r) n P b l.fn tmps l.assign l.body w (CallPost B σ h w v h') := by
  unfold roundA at hc
  split at hc
  · rename_i pd f ps assign body db hk
    obtain ⟨l, l1, l2, l3, l4, l5, l6, l7, l8, l9⟩ := hr.loopAt hk hs
    split at hc
    · rename_i f0 hp
      have hfr0 : FR σ ⟨f.sz, f.t, [], some k⟩ { tmps := l.tmps, defers := [] } (some b) := ⟨l8, fun i => l9 i, rfl, b, κ, rfl, hs⟩
      obtain ⟨p1, p2⟩ := setParams_sound hfr0 hl hp
      refine ⟨l, _, run_yield l1 (by rw [← l4] at p1; simp at p1 ⊢; omega), ?_⟩
      have harr : (l.params.zip us.toArray).foldl (fun tmps (t, a) => tmps.setIfInBounds t a) l.tmps = (ps.zip us).foldl (fun tmps (t, x) => tmps.setIfInBounds t x) l.tmps := by
        rw [← Array.foldl_toList, ← l4]
        simp
      rw [harr]
      split at hc
      · rename_i f1 h1 hra
        split at hc
        · rename_i pd1 f1' ps1 as1 bd1 db1 hk1
          split at hc
          · rename_i h2 hset1
            split at hc
            · rename_i x f2 h3 hrb
              split at hc
              · rename_i st3 pd3 f3 ps3 as3 bd3 db3 hk3
                refine roundIn_of_wpIn (F := FW r) trivial ?_
                have hwa := hrec assign f0 h .normal f1 h1 hra B σ _ w (some b) n p2 hr
                rw [l5]
                refine wpIn_mono hwa ?_
                rintro e a1 w1 ⟨hxr, σ1, hf1, hst1⟩
                have he : e = .normal := hxr
                subst he
                have hle1 := hst1.le hr
                have hs1 := hle1 _ _ hs
                obtain ⟨m, m1, m2, m3, m4, m5, m6, m7, m8, m9⟩ := hst1.hr.loopAt hk1 hs1
                have hst2 := hst1.hr.putObj (o2 := .loop .busy pd1 f1' ps1 as1 bd1 db1) (ob := .loop { m with state := .busy }) hk1 rfl rfl hs1 ⟨{ m with state := .busy }, rfl, rfl, m3, m4, m5, m6, m7, m8, m9⟩ hset1
                show ∃ w₂, (Instr.beginRound b).run P w1 = .ok () w₂ ∧ l.body.wpIn ((FW r).inRound b) n P (roundPost P b (CallPost B σ h w v h')) a1 w₂
                refine ⟨_, run_beginRound m1 ?_, ?_⟩
                · exact m2
                · rw [l6]
                  have hwb := hrec body f1 h2 x f2 h3 hrb B σ1 a1 _ (some b) n hf1 hst2.hr
                  refine wpIn_mono hwb ?_
                  rintro e a2 w3 ⟨hxr2, σ3, hf2, hst3⟩
                  have hle3 := hst3.le hst2.hr
                  have hs3 := hle3 _ _ hs1
                  obtain ⟨q, q1, q2, q3, q4, q5, q6, q7, q8, q9⟩ := hst3.hr.loopAt hk3 hs3
                  have hall := (hst1.trans hst2).trans hst3
                  have fin : ∀ (jump : Option Code) (h4 : H), h3.set k (.loop (if jump.isNone then .ready else .done) jump f3 ps3 as3 bd3 db3) = some h4 → v = .bool jump.isNone → h4 = h' →
                      ∃ v' w', (Instr.endRound b jump).run P w3 = .ok v' w' ∧ CallPost B σ h w v h' (.returned v') w' := fun jump h4 hset2 hv hh => by
                    subst hh; subst hv
                    have hst4 := hst3.hr.putObj (o2 := .loop (if jump.isNone then .ready else .done) jump f3 ps3 as3 bd3 db3) (ob := .loop { q with state := if jump.isNone then .ready else .done, pending := jump }) hk3 rfl rfl hs3 ⟨_, rfl, rfl, rfl, q4, q5, q6, q7, q8, q9⟩ hset2
                    exact ⟨_, _, run_endRound jump q1, _, σ3, rfl, .atom rfl, hall.trans hst4⟩
                  cases x with
                  | normal =>
                    have he : e = .normal := hxr2
                    subst he
                    simp only at hc
                    split at hc
                    · rename_i h4 hset2
                      simp only [Option.some.injEq, Prod.mk.injEq] at hc
                      obtain ⟨rfl, rfl⟩ := hc
                      exact fin none _ hset2 rfl rfl
                    · cases hc
                  | ret =>
                    have he : e = .ret := hxr2
                    subst he
                    simp only at hc
                    split at hc
                    · rename_i h4 hset2
                      simp only [Option.some.injEq, Prod.mk.injEq] at hc
                      obtain ⟨rfl, rfl⟩ := hc
                      exact fin (some .ret) _ hset2 rfl rfl
                    · cases hc
                  | exit id =>
                    have he : e = .exit id := hxr2
                    subst he
                    simp only at hc
                    split at hc
                    · rename_i h4 hset2
                      simp only [Option.some.injEq, Prod.mk.injEq] at hc
                      obtain ⟨rfl, rfl⟩ := hc
                      exact fin (some (.exit id)) _ hset2 rfl rfl
                    · cases hc
              · cases hc
            · cases hc
          · cases hc
        · cases hc
      · cases hc
    · cases hc
  · cases hc
end
end Go.Proofs.YtflnpcgnenhogaaDoor.ev

namespace Go.Proofs.YtflnpcgnenhogaaDoor.ev
open Go Go.RowKit

section
variable {B : Nat} {P : Program} {σ : Sg} {h : H} {w : World} {tab : Tab} {rec : Code → F → H → Option R}

/-! ### which operations put off a call -/
theorem kind_defer {op : Op} {k : Nat} (hk : kindOf P op = k) (h2 : k < 2) : ∀ c, op ≠ .defer c := by
  rintro c rfl
  simp only [kindOf] at hk
  omega
theorem xw_defer {o : Oper} {g : Nat → Value} {r : AN} {c : Call} (ho : o.op = .defer c) (hx : xw P tab o g h = some r) : ∃ i args cap h', r = .defer i args cap h' := by
  unfold xw stW at hx
  rw [ho] at hx
  simp only at hx
  split at hx
  · split at hx
    · split at hx
      · injection hx with hx; exact ⟨_, _, _, _, hx.symm⟩
      · cases hx
    · cases hx
  · cases hx

theorem about_FW {r : Option Nat} {o : Oper} {a : Act} (w : World) : ∀ f, o.about P w a.eval = some f → (FW r).fn f := fun f _ => FW_fn r f

/-- an operation that neither makes memory nor writes any -/
theorem opQ_sound {r : Option Nat} {n : Nat} {o : Oper} {a : Act} {v : Value} {g : Nat → Value} {nx : Nat} (hr : HR B σ h.heap.get nx w) (hk : kindOf P o.op = 0) (hg : ∀ x ∈ o.op.operands.toList, VO σ g a x) (hx : xq P o g h = some v) {K : Act → World → Prop} {Q : Exit → Act → World → Prop}
    (hK : ∀ u, VR σ v u → K (a.put o.dst u) w) : o.wpIn (FW r) n P a w K Q := by
  obtain ⟨u, h1, h2⟩ := xq_sound hr hg hx
  refine ⟨about_FW w, ?_⟩
  rw [Oper.semAt_eq _ _ _ (kind_defer hk (by omega)), h1]
  exact hK u h2

/-- an operation that makes a block -/
theorem opM_sound {r : Option Nat} {n : Nat} {o : Oper} {a : Act} {v : Value} {g : Nat → Value} {id : Nat} {rw : AO} (hk : kindOf P o.op = 1) (hg : ∀ x ∈ o.op.operands.toList, VO σ g a x) (hx : xa P o g id = some (v, rw)) {K : Act → World → Prop} {Q : Exit → Act → World → Prop}
    (hK : ∀ u ob, (∀ σ' κ, σ.le σ' → σ' id = some (w.heap.size, κ) → VR σ' v u ∧ ORel σ' κ rw ob) → K (a.put o.dst u) (w.alloc ob)) : o.wpIn (FW r) n P a w K Q := by
  obtain ⟨_, U, ob, h1, h2⟩ := xa_sound hg hx
  refine ⟨about_FW w, ?_⟩
  rw [Oper.semAt_eq _ _ _ (kind_defer hk (by omega)), h1]
  exact hK _ _ fun σ' κ hle hs => h2 σ' _ κ hle hs

/-- an operation that writes or calls -/
theorem opW_sound (ht : TabOk P tab) (hrec : RecOk P rec) {r : Option Nat} {n : Nat} {o : Oper} {a : Act} {v : Value} {f : F} {h' : H} (hr : HR B σ h.heap.get h.next w) (hg : ∀ x ∈ o.op.operands.toList, VO σ f.get a x) (hx : wrA P tab rec o f h = some (v, h')) {K : Act → World → Prop} {Q : Exit → Act → World → Prop}
    (hK : ∀ u σ' w', VR σ' v u → Step B σ h.heap.get h.next w σ' h'.heap.get h'.next w' → K (a.put o.dst u) w') : o.wpIn (FW r) n P a w K Q := by
  refine ⟨about_FW w, ?_⟩
  unfold wrA at hx
  split at hx
  · rename_i v1 h1 he
    simp only [Option.some.injEq, Prod.mk.injEq] at hx
    obtain ⟨rfl, rfl⟩ := hx
    obtain ⟨u, w', σ', c1, c2, c3⟩ := xw_sound ht hr hg he
    rw [Oper.semAt_eq _ _ _ (fun c hc => by obtain ⟨_, _, _, _, e⟩ := xw_defer hc he; cases e), c1]
    exact hK u σ' w' c2 c3
  · rename_i h1 he
    simp only [Option.some.injEq, Prod.mk.injEq] at hx
    obtain ⟨rfl, rfl⟩ := hx
    obtain ⟨w', σ', c1, c3⟩ := xw_sound ht hr hg he
    rw [Oper.semAt_eq _ _ _ (fun c hc => by obtain ⟨_, _, _, _, e⟩ := xw_defer hc he; cases e), c1]
    exact hK _ σ' w' VR.undef c3
  · rename_i g args h1 he
    obtain ⟨rfl, us, c1, c2⟩ := xw_sound ht hr hg he
    rw [Oper.semAt_eq _ _ _ (fun c hc => by obtain ⟨_, _, _, _, e⟩ := xw_defer hc he; cases e), c1]
    refine ⟨FW_depth r n, (callsIn_any (callA_sound ht hrec hr c2 hx n)).mono ?_⟩
    rintro e w' ⟨u, σ', rfl, d1, d2⟩
    exact hK u σ' w' d1 d2
  · rename_i k args h1 he
    obtain ⟨rfl, b, κ, us, c0, c1, c2⟩ := xw_sound ht hr hg he
    obtain ⟨l, tmps, d1, d2⟩ := roundA_sound hrec hr c2 hx c0 r (n - 1)
    rw [Oper.semAt_eq _ _ _ (fun c hc => by obtain ⟨_, _, _, _, e⟩ := xw_defer hc he; cases e), c1, d1]
    refine ⟨FW_depth r n, RoundIn.mono d2 ?_⟩
    rintro e w' ⟨u, σ', rfl, e1, e2⟩
    exact hK u σ' w' e1 e2
  · cases hx
end
end Go.Proofs.YtflnpcgnenhogaaDoor.ev

namespace Go.Proofs.YtflnpcgnenhogaaDoor.ev
open Go Go.RowKit

section
variable {B : Nat} {P : Program} {σ : Sg} {h : H} {w : World} {tab : Tab} {rec : Code → F → H → Option R}

theorem opA_sound (ht : TabOk P tab) (hrec : RecOk P rec) {r : Option Nat} {n : Nat} {o : Oper} {a : Act} {f f' : F} {h' : H} (hf : FR σ f a r) (hr : HR B σ h.heap.get h.next w) (hx : opA P tab rec o f h = some (f', h')) {K : Act → World → Prop} {Q : Exit → Act → World → Prop}
    (hK : ∀ a' σ' w', FR σ' f' a' r → Step B σ h.heap.get h.next w σ' h'.heap.get h'.next w' → K a' w') : o.wpIn (FW r) n P a w K Q := by
  have hg : ∀ x ∈ o.op.operands.toList, VO σ f.get a x := fun x _ => hf.vo hr.glob x
  unfold opA at hx
  split at hx
  · rename_i hk
    split at hx
    · rename_i v hv
      split at hx
      · rename_i f1 hp
        simp only [Option.some.injEq, Prod.mk.injEq] at hx
        obtain ⟨rfl, rfl⟩ := hx
        exact opQ_sound hr hk hg hv fun u hu => hK _ σ w (hf.put hp hu) (Step.refl hr)
      · cases hx
    · cases hx
  · rename_i hk
    split at hx
    · rename_i v rw hv
      split at hx
      · rename_i k h1 hn
        split at hx
        · rename_i f1 hp
          simp only [Option.some.injEq, Prod.mk.injEq] at hx
          obtain ⟨rfl, rfl⟩ := hx
          obtain ⟨rfl, e2, e3, e4⟩ := H.new_inv hn
          refine opM_sound (σ := σ) hk hg hv fun u ob hu => ?_
          have hle : σ.le (σ.set h.next w.heap.size 0) := Sg.set_le _ _ (hr.fresh _ (Nat.le_refl _)).1
          obtain ⟨c1, c2⟩ := hu (σ.set h.next w.heap.size 0) 0 hle (Sg.set_same _ _ _ _)
          refine hK _ _ _ ((hf.mono hle).put hp c1) ?_
          rw [e2]
          exact hr.newB (w' := w.alloc ob) rfl rfl rfl rfl c2 e3 e4
        · cases hx
      · cases hx
    · cases hx
  · have hwr : ∀ {v h1 f1}, wrA P tab rec o f h = some (v, h1) → f.put o.dst v = some f1 → f1 = f' → h1 = h' → o.wpIn (FW r) n P a w K Q := fun {v h1 f1} h1 h2 h3 h4 => by
      subst h3; subst h4
      exact opW_sound ht hrec hr hg h1 fun u σ' w' d1 d2 => hK _ σ' w' ((hf.mono (d2.le hr)).put h2 d1) d2
    split at hx
    · rename_i v h1 he
      split at hx
      · rename_i f1 hp
        simp only [Option.some.injEq, Prod.mk.injEq] at hx
        exact hwr (by unfold wrA; rw [he]) hp hx.1 hx.2
      · cases hx
    · rename_i h1 he
      split at hx
      · rename_i f1 hp
        simp only [Option.some.injEq, Prod.mk.injEq] at hx
        exact hwr (by unfold wrA; rw [he]) hp hx.1 hx.2
      · cases hx
    · rename_i g args h1 he
      split at hx
      · rename_i v h2 hc
        split at hx
        · rename_i f1 hp
          simp only [Option.some.injEq, Prod.mk.injEq] at hx
          exact hwr (by unfold wrA; rw [he]; exact hc) hp hx.1 hx.2
        · cases hx
      · cases hx
    · rename_i g args cap h1 he
      split at hx
      · rename_i hrd
        split at hx
        · rename_i f1 hp
          simp only [Option.some.injEq, Prod.mk.injEq] at hx
          obtain ⟨rfl, rfl⟩ := hx
          obtain ⟨rfl, us, cs, c1, c2, c3⟩ := xw_sound ht hr hg he
          have hr0 : r = none := by have := hf.rd; rw [hrd] at this; exact this
          subst hr0
          refine ⟨about_FW w, ?_⟩
          rw [show (FW none).round = none from rfl, Oper.semAt_none, c1]
          refine hK _ σ w (FR.put (f := ⟨f.sz, f.t, .call g args cap :: f.ds, none⟩) (a := { a with defers := { target := .fn (.func g) cs, args := us } :: a.defers }) ⟨hf.size, hf.slot, ⟨us, cs, _, rfl, c2, c3, hf.ds⟩, rfl⟩ hp VR.undef) (Step.refl hr)
        · cases hx
      · cases hx
    · rename_i k args h1 he
      split at hx
      · rename_i v h2 hc
        split at hx
        · rename_i f1 hp
          simp only [Option.some.injEq, Prod.mk.injEq] at hx
          exact hwr (by unfold wrA; rw [he]; exact hc) hp hx.1 hx.2
        · cases hx
      · cases hx
    · cases hx

theorem opsA_sound (ht : TabOk P tab) (hrec : RecOk P rec) {r : Option Nat} {n : Nat} {ops : Array Oper} {f' : F} {h' : H} {Q : Exit → Act → World → Prop} : ∀ (os : List Oper) (i : Nat) (σ : Sg) (f : F) (h : H) (a : Act) (w : World),
    ops.toList = ops.toList.take i ++ os → i + os.length = ops.size → FR σ f a r → HR B σ h.heap.get h.next w → opsA P tab rec ops os f h = some (f', h') →
    (∀ a' σ' w', FR σ' f' a' r → Step B σ h.heap.get h.next w σ' h'.heap.get h'.next w' → Q .normal a' w') → wpOpsIn (FW r) n P ops Q (List.range' i os.length) a w
  | [], i, σ, f, h, a, w, hos, hi, hf, hr, hx, hK => by
    simp only [opsA, Option.some.injEq, Prod.mk.injEq] at hx
    obtain ⟨rfl, rfl⟩ := hx
    exact hK _ _ _ hf (Step.refl hr)
  | o :: os, i, σ, f, h, a, w, hos, hi, hf, hr, hx, hK => by
    simp only [List.length_cons] at hi
    have hlt : i < ops.size := by omega
    have ho : ops[i]? = some o := by
      rw [← Array.getElem?_toList, hos, List.getElem?_append_right (by simp; omega)]
      simp [Nat.min_eq_left (Nat.le_of_lt hlt)]
    have hos' : ops.toList = ops.toList.take (i + 1) ++ os := by
      have h1 : ops.toList.drop i = o :: os := by
        conv => lhs; rw [hos]
        simp [Nat.min_eq_left (Nat.le_of_lt hlt)]
      have h2 : ops.toList.drop (i + 1) = os := by rw [← List.drop_drop, h1]; rfl
      rw [← h2, List.take_append_drop]
    rw [List.length_cons, List.range'_succ, wpOpsIn_cons]
    unfold wpOpIn
    simp only [ho]
    simp only [opsA] at hx
    have hw := wantedA_eq (σ := σ) (ops := ops) (o := o) (g := f.get) (a := a) fun j want p d _ _ _ => hf.slot d
    rw [← hw]
    split at hx
    · rename_i hwt
      split at hx
      · rename_i f1 h1 hop
        simp only [hwt, if_true]
        refine opA_sound ht hrec hf hr hop fun a1 σ1 w1 hf1 hst1 => ?_
        exact opsA_sound ht hrec os (i + 1) σ1 f1 h1 a1 w1 hos' (by omega) hf1 hst1.hr hx fun a2 σ2 w2 hf2 hst2 => hK a2 σ2 w2 hf2 (hst1.trans hst2)
      · cases hx
    · rename_i hwt
      split at hx
      · rename_i f1 hp
        simp only [hwt, Bool.false_eq_true, if_false]
        exact ⟨about_FW w, opsA_sound ht hrec os (i + 1) σ f1 h _ w hos' (by omega) (hf.put hp VR.undef) hr hx hK⟩
      · cases hx
end
end Go.Proofs.YtflnpcgnenhogaaDoor.ev
