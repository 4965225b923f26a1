/- Own lemmas, laid together. -/
import Derived.Test.YtflnpcgnenhogaaGreatDoorBk6
import Derived.RangeFuncRecord
import Derived.RangeFuncNested
import Derived.OrdersIn
import Derived.LoopNIn
namespace Go.Proofs.YtflnpcgnenhogaaGreatDoor.ev
open Go Go.RowKit

section
variable {B : Nat} {P : Program} {σ : Sg} {h : H} {w : World}

def CallPost (B : Nat) (σ : Sg) (h : H) (w : World) (v : Value) (h' : H) : Ending → World → Prop := fun e w' => ∃ u σ', e = .returned u ∧ VR σ' v u ∧ Step B σ h.heap.get h.next w σ' h'.heap.get h'.next w'
def AnsOk (P : Program) (i : FuncId) (t : List Value → H → Option (Value × H)) : Prop :=
 ∀ args h v h', t args h = some (v, h') → ∀ B σ us w n, HR B σ h.heap.get h.next w → LR σ args us → CallsIn Fence.wide n P i us.toArray w (CallPost B σ h w v h')
def TabOk (P : Program) (tab : Tab) : Prop := ∀ i x, tab i = some x → P.funcs[i]? = some x.fn ∧ (x.fn.name == "runtime.NumGoroutine") = false ∧ ∀ t, x.ans = some t → AnsOk P i t ∧ ∃ c, x.fn.body = some c

/-- what an operation that writes or calls comes to -/
def ANR (P : Program) (B : Nat) (σ : Sg) (h : H) (w : World) (s : Sem Next) : AN → Prop
 | .val v h' => ∃ u w' σ', s.run P w = .ok (.value u) w' ∧ VR σ' v u ∧ Step B σ h.heap.get h.next w σ' h'.heap.get h'.next w'
 | .skip h' => ∃ w' σ', s.run P w = .ok .skip w' ∧ Step B σ h.heap.get h.next w σ' h'.heap.get h'.next w'
 | .call i args h' => h' = h ∧ ∃ us : List Value, s.run P w = .ok (.enter i us.toArray) w ∧ LR σ args us
 | .defer i args cap h' => h' = h ∧ ∃ us cs : Array Value, s.run P w = .ok (.defer { target := .fn (.func i) cs, args := us }) w ∧ LR σ args us.toList ∧ LR σ cap cs.toList
 | .round k args h' => h' = h ∧ ∃ b κ, ∃ us : List Value, σ k = some (b, κ) ∧ s.run P w = (Instr.yield b us.toArray).run P w ∧ LR σ args us

theorem bytesA_sound (hr : HR B σ h.heap.get h.next w) {s d : TypeId} {x x' v : Value} {h' : H} (hx : VR σ x x') (hs : bytesA P h s d x = some (v, h')) :
  ∃ u w' σ', (convert s d x').run P w = .ok u w' ∧ VR σ' v u ∧ Step B σ h.heap.get h.next w σ' h'.heap.get h'.next w' := by
 unfold bytesA at hs
 split at hs
 ·rename_i e s0 hu hd
  have e0 := hx.atom_inv rfl
  subst e0
  split at hs
  ·rename_i he
   split at hs
   ·rename_i c hc
    split at hs
    ·rename_i k h1 hnew
     simp only [Option.some.injEq, Prod.mk.injEq] at hs
     obtain ⟨rfl, rfl⟩ := hs
     obtain ⟨rfl, e2, e3, e4⟩ := H.new_inv hnew
     have hge : s0.size ≤ grownCap w s0.size 0 e := grownCap_ge w s0.size 0 e
     generalize hcap : grownCap w s0.size 0 e = cap at hge
     have hdl : (s0.data.map fun b => Value.int .u8 b.toNat).size = s0.size := by rw [Array.size_map]; rfl
     let cells : Array Value := (s0.data.map fun b => Value.int .u8 b.toNat) ++ Array.replicate (cap - s0.size) (.int .u8 0)
     have hcs : cells.size = cap := by simp only [cells, Array.size_append, hdl, Array.size_replicate]; omega
     have hrun : (convert s d (.string s0)).run P w = .ok (.slice (some ⟨w.heap.size, 0, none⟩) s0.size cap) (w.drew.alloc (.cells cells e (cap, cap + 1))) := by
      have h1 : (convert s d (.string s0)).run P w = (Conv.stringToBytes e s0).run P w := by
       simp [convert, run_underlying hu, run_underlying hd, run_underlying he]
      rw [h1]
      have hch : (choose (.appendCap s0.size 0 e)).run P w = .ok cap w.drew := by
       rw [← hcap]; simp [grownCap, Question.forced]
      have hsh : ∀ w2 : World, (w2.alloc (.cells cells e)).shape? w2.heap.size = some (e, cap) := fun w2 => by
       have e1 : (w2.alloc (.cells cells e)).heap[w2.heap.size]? = some (.cells cells e) := by rw [show (w2.alloc (.cells cells e)).heap = w2.heap.push (.cells cells e) from rfl]; simp
       simp only [World.shape?, e1, hcs]
      have hfz : ∀ w2 : World, (w2.alloc (.cells cells e)).freeze ⟨w2.heap.size, cap, none⟩ 1 = w2.alloc (.cells cells e (cap, cap + 1)) := fun w2 => by
       unfold World.freeze World.alloc
       simp only [Nat.one_ne_zero, if_false]
       congr 1
       apply Array.ext_getElem?
       intro j
       rw [Array.getElem?_modify, Array.getElem?_push, Array.getElem?_push]
       by_cases hj : w2.heap.size = j
       ·subst hj; simp
       ·simp [hj, Ne.symm hj]
      unfold Conv.stringToBytes
      simp only [Sem.run_bind, hch, Result.andThen_ok, newRow, run_newObj_alloc, Sem.run_pure]
      have hmk : (markStringish ⟨w.heap.size, 0, none⟩).run P (w.drew.alloc (.cells cells e)) = .ok () (w.drew.alloc (.cells cells e (cap, cap + 1))) := by
       have h2 := hsh w.drew
       have h3 := hfz w.drew
       rw [show w.drew.heap.size = w.heap.size from rfl] at h2 h3
       have h4 : (shape w.heap.size).run P (w.drew.alloc (.cells cells e)) = .ok (some (e, cap)) (w.drew.alloc (.cells cells e)) := by
        show (Sem.shape w.heap.size Sem.pure).run P _ = _
        simp only [Sem.run, h2]
       have h5 : (freeze ⟨w.heap.size, cap, none⟩ 1).run P (w.drew.alloc (.cells cells e)) = .ok () (w.drew.alloc (.cells cells e (cap, cap + 1))) := by
        show (Sem.freeze _ _ (Sem.pure ())).run P _ = _
        simp only [Sem.run, h3]
       unfold markStringish
       simp only [Sem.run_bind, h4, Result.andThen_ok, h5]
      simp only [show w.drew.heap.size = w.heap.size from rfl]
      rw [show (Array.map (fun b => Value.int .u8 b.toNat) s0.data ++ Array.replicate (cap - s0.size) (.int .u8 0)) = cells from rfl]
      rw [hmk]
      simp
     refine ⟨_, _, σ.set h.next w.heap.size cap, hrun, ?_, ?_⟩
     ·have := VR.loose (σ := σ.set h.next w.heap.size cap) (k := h.next) (b := w.heap.size) (κ := cap) (o := 0) (d := 0) (n := s0.size) (Sg.set_same _ _ _ _) (by omega)
      simpa using this
     ·rw [e2]
      refine hr.newB (o := .row s0.size c (.int .u8 0) e (some 1) true) (w' := w.drew.alloc (.cells cells e (cap, cap + 1))) rfl rfl rfl rfl ⟨cells, (cap, cap + 1), rfl, by omega, fun j hj => ?_, fun q hq => by injection hq with hq; subst hq; rw [hcs]; omega, fun _ j hj => by simp; omega, fun hq => by cases hq⟩ e3 e4
      have hbl : (byteVals s0 s0.size).length = s0.size := by rw [byteVals_eq, byteCells_length]
      have h1 := T.get_setMany (byteVals s0 s0.size) .leaf c 0 hc j
      rw [if_pos ⟨Nat.zero_le _, by omega⟩, Nat.sub_zero] at h1
      have hj' : j < s0.data.size := hj
      have h3 : (byteVals s0 s0.size)[j]? = some (.int .u8 (s0.data[j].toNat : Int)) := by
       rw [byteVals_eq]
       unfold byteCells
       rw [List.getElem?_map, Array.getElem?_toList, Array.getElem?_eq_getElem hj']
       rfl
      refine ⟨.int .u8 (s0.data[j].toNat : Int), ?_, ?_⟩
      ·simp only [cells]
       rw [Array.getElem?_append, hdl, if_pos hj, Array.getElem?_map, Array.getElem?_eq_getElem hj']
       rfl
      ·unfold cellAt
       rw [h1, h3]
       exact .atom rfl
    ·cases hs
   ·cases hs
  ·cases hs
 ·cases hs

theorem clear_sound (hr : HR B σ h.heap.get h.next w) {t ty e : TypeId} {k off n c : Nat} {sp : Option Nat} {z x' : Value} {h' : H} (hu : P.underlying t = some (.slice e)) (hz : zeroOf P e = some z) (hf : flatN 6 z = true) (hz1 : 1 ≤ (vcells z).length)
  (hx : VR σ (.slice (some ⟨k, off, sp⟩) n c) x') (hw : writeN h k off (repeatCells (vcells z) n) = some h') :
  ∃ w', (Builtin.clear_ #[t] ty #[x']).run P w = .ok (.tuple #[]) w' ∧ Step B σ h.heap.get h.next w σ h'.heap.get h'.next w' := by
 obtain ⟨b, κ, o, c', hσ, rfl, ho⟩ := hx.any_slice
 obtain ⟨g1, g2, g3, g4⟩ := writeN_sound hr hw hσ (LR.repeat ((VR.same (σ := σ) 6 _ hf).cells) n)
 have hzc : (Builtin.zeroCells z.cells n).toList = repeatCells (vcells z) n := by
  unfold Builtin.zeroCells
  rw [← vcells_eq]
  exact made_eq z.cells n (.inl (by rw [← vcells_eq] at hz1; simp at hz1; omega))
 by_cases h0 : n = 0
 ·subst h0
  exact ⟨w, by simp [Builtin.clear_, run_underlying hu], g4⟩
 ·have := ho (by omega)
  subst this
  have hst := run_storeCells_cells (P := P) b o (repeatCells (vcells z) n) 0 w (by simpa using g1) (by simpa using g2) g3
  simp only [Nat.add_zero] at hst
  obtain ⟨m, rfl⟩ : ∃ m, n = m + 1 := ⟨n - 1, by omega⟩
  exact ⟨_, by simp [Builtin.clear_, run_underlying hu, zeroOf_run hz, hzc, hst], g4⟩

theorem callee_run {tab : Tab} (ht : TabOk P tab) {i : FuncId} {x : FX} {c : Code} (h1 : tab i = some x) (h2 : x.fn.body = some c) (args : Array Value) : (callFunc i args).run P w = .ok (.enter i args) w := by
 obtain ⟨a1, a2, _⟩ := ht i x h1
 have a3 : ¬ x.fn.name = "runtime.NumGoroutine" := by simpa using a2
 simp [callFunc, a1, a3, h2]

theorem calleeA_sound {tab : Tab} (ht : TabOk P tab) (hr : HR B σ h.heap.get h.next w) {i : FuncId} {args us : List Value} {s : Sem Next} {r : AN} (hl : LR σ args us) (hs : s.run P w = (callFunc i us.toArray).run P w) (hc : calleeA P tab i args h = some r) :
  ANR P B σ h w s r := by
 unfold calleeA at hc
 split at hc
 ·rename_i fn hfn
  split at hc
  ·rename_i c hb
   injection hc with hc; subst hc
   exact ⟨rfl, us, by rw [hs, callee_run ht hfn hb], hl⟩
  ·cases hf : args.all (flatN 1) with
   | false => rw [hf] at hc; cases hc
   | true =>
    rw [hf] at hc
    simp only [cond_true] at hc
    split at hc
    ·rename_i v hv
     cases hf2 : flatN 1 v with
     | false => rw [hf2] at hc; cases hc
     | true =>
      rw [hf2] at hc
      simp only [cond_true, Option.some.injEq] at hc
      subst hc
      have e := hl.flat hf
      subst e
      exact ⟨v, w, σ, by rw [hs]; exact pureRun_run hv w, VR.same 1 _ hf2, Step.refl hr⟩
    ·cases hc
 ·cases hc
end
end Go.Proofs.YtflnpcgnenhogaaGreatDoor.ev

namespace Go.Proofs.YtflnpcgnenhogaaGreatDoor.ev
open Go Go.RowKit

section
variable {B : Nat} {P : Program} {σ : Sg} {h : H} {w : World}

theorem callMethod_run {t : TypeId} {name : String} {i : FuncId} (hm : methodA P t name = some i) (v : Value) (args : Array Value) : (callMethod (.iface t v) name args).run P w = (callFunc i (#[v] ++ args)).run P w := by
 have h1 : (method (P.types.size + Made.depth) t v name).run P w = .ok (i, v) w := method_run hm (P.types.size + 99) v
 simp [callMethod, h1]

theorem xw_sound {tab : Tab} (ht : TabOk P tab) (hr : HR B σ h.heap.get h.next w) {o : Oper} {g : Nat → Value} {a : Act} {r : AN} (hg : ∀ x ∈ o.op.operands.toList, VO σ g a x) (hx : xw P tab o g h = some r) :
  ANR P B σ h w (execOp a.eval o) r := by
 obtain ⟨dst, op, type, pos, after, guard⟩ := o
 unfold xw stW at hx
 simp only at hg hx
 split at hx <;> dsimp only at hx
 ·rename_i t x y
  split at hx
  ·rename_i p v hp hv
   unfold ho at hx
   split at hx
   ·rename_i h1 hs
    injection hx with hx; subst hx
    obtain ⟨w', c1, c2⟩ := storeA_sound (P := P) hr (hg x (by simp [Op.operands]) _ hp) (hg y (by simp [Op.operands]) _ hv) hs
    exact ⟨w', σ, by simp [execOp, c1], c2⟩
   ·cases hx
  ·cases hx
 ·rename_i t m k x
  split at hx
  ·rename_i p q v hp hq hv
   unfold ho at hx
   split at hx
   ·rename_i h1 hs
    injection hx with hx; subst hx
    obtain ⟨w', c1, c2⟩ := mapUpdateA_sound (P := P) hr (hg m (by simp [Op.operands]) _ hp) (hg k (by simp [Op.operands]) _ hq) (hg x (by simp [Op.operands]) _ hv) hs
    exact ⟨w', σ, by simp [execOp, c1], c2⟩
   ·cases hx
  ·cases hx
 ·rename_i t m k x
  split at hx
  ·rename_i p q v hp hq hv
   unfold ho at hx
   split at hx
   ·rename_i h1 hs
    injection hx with hx; subst hx
    obtain ⟨w', c1, c2⟩ := mapUpdateA_sound (P := P) hr (hg m (by simp [Op.operands]) _ hp) (hg k (by simp [Op.operands]) _ hq) (hg x (by simp [Op.operands]) _ hv) hs
    exact ⟨w', σ, by simp [execOp, c1], c2⟩
   ·cases hx
  ·cases hx
 ·rename_i c
  split at hx
  ·rename_i args hargs
   have hl : LR σ args (c.args.map a.eval).toList := by
    rw [show (c.args.map a.eval).toList = c.args.toList.map a.eval by simp]
    exact opvs_sound (fun x hx => hg x (by simp [Op.operands, Call.operands]; exact .inr (by simpa using hx))) hargs
   have hcal : ∀ r, (c.callee = .value r ∨ ∃ n, c.callee = .invoke r n) → VO σ g a r := fun r hr' => hg r (by
    rcases hr' with h | ⟨n, h⟩ <;> simp [Op.operands, Call.operands, h])
   obtain ⟨callee, args0, ats⟩ := c
   simp only at hx hl hcal hargs
   have hat : (args0.map a.eval) = (args0.map a.eval).toList.toArray := by apply Array.ext'; rfl
   split at hx
   ·rename_i b
    split at hx
    ·rename_i t tx s x hts
     unfold vh at hx
     split at hx
     ·rename_i v h1 hs
      injection hx with hx; subst hx
      obtain ⟨s', us, e1, e2, e3⟩ := hl.cons_inv
      obtain ⟨x', us', e4, e5, e6⟩ := e3.cons_inv
      have e7 := e6.nil_inv
      subst e7; subst e4
      obtain ⟨u, w', σ', c1, c2, c3⟩ := appendA_sound (P := P) (ty := type) hr e2 e5 hs
      have e8 : args0.map a.eval = #[s', x'] := by rw [hat, e1]
      have e9 : ats = #[t, tx] := by apply Array.ext'; rw [hts]
      exact ⟨u, w', σ', by simp [execOp, resolve, invoke, builtin, e8, e9, c1], c2, c3⟩
     ·cases hx
    ·rename_i t tx d x hts
     unfold vh at hx
     split at hx
     ·rename_i v h1 hs
      injection hx with hx; subst hx
      obtain ⟨s', us, e1, e2, e3⟩ := hl.cons_inv
      obtain ⟨x', us', e4, e5, e6⟩ := e3.cons_inv
      have e7 := e6.nil_inv
      subst e7; subst e4
      obtain ⟨u, w', c1, c2, c3⟩ := copyA_sound (P := P) (tx := tx) (ty := type) hr e2 e5 hs
      have e8 : args0.map a.eval = #[s', x'] := by rw [hat, e1]
      have e9 : ats = #[t, tx] := by apply Array.ext'; rw [hts]
      exact ⟨u, w', σ, by simp [execOp, resolve, invoke, builtin, e8, e9, c1], c2, c3⟩
     ·cases hx
    ·rename_i t tk m k hts
     split at hx
     ·rename_i h1 hs
      injection hx with hx; subst hx
      obtain ⟨s', us, e1, e2, e3⟩ := hl.cons_inv
      obtain ⟨x', us', e4, e5, e6⟩ := e3.cons_inv
      have e7 := e6.nil_inv
      subst e7; subst e4
      obtain ⟨w', c1, c3⟩ := deleteA_sound (P := P) (tk := tk) (ty := type) hr e2 e5 hs
      have e8 : args0.map a.eval = #[s', x'] := by rw [hat, e1]
      have e9 : ats = #[t, tk] := by apply Array.ext'; rw [hts]
      exact ⟨.tuple #[], w', σ, by simp [execOp, resolve, invoke, builtin, e8, e9, c1], VR.same 1 _ rfl, c3⟩
     ·cases hx
    ·rename_i t k off sp n c0 hts
     split at hx
     ·rename_i e hu
      split at hx
      ·rename_i z hz
       cases hf : flatN 6 z && Nat.ble 1 (vcells z).length with
       | false => rw [hf] at hx; cases hx
       | true =>
        rw [hf] at hx
        simp only [cond_true] at hx
        simp only [Bool.and_eq_true] at hf
        split at hx
        ·rename_i h1 hw
         injection hx with hx; subst hx
         obtain ⟨s', us, e1, e2, e3⟩ := hl.cons_inv
         have e7 := e3.nil_inv
         subst e7
         obtain ⟨w', c1, c3⟩ := clear_sound (P := P) (ty := type) hr hu hz hf.1 (ble_of hf.2) e2 hw
         have e8 : args0.map a.eval = #[s'] := by rw [hat, e1]
         have e9 : ats = #[t] := by apply Array.ext'; rw [hts]
         exact ⟨.tuple #[], w', σ, by simp [execOp, resolve, invoke, builtin, e8, e9, c1], VR.same 1 _ rfl, c3⟩
        ·cases hx
      ·cases hx
     ·cases hx
    ·cases hx
   ·rename_i r
    have hcr := hcal r (.inl rfl)
    split at hx
    ·rename_i i first captured hv
     have h1 := hcr _ hv
     obtain ⟨ds, ds', e1, e2, e3⟩ := h1.func_inv rfl
     refine calleeA_sound ht hr (us := ds.toList ++ (args0.map a.eval).toList ++ ds'.toList) ((e2.append hl).append e3) ?_ hx
     have : (ds.toList ++ (args0.map a.eval).toList ++ ds'.toList).toArray = ds ++ args0.map a.eval ++ ds' := by apply Array.ext'; simp
     rw [this]
     simp [execOp, resolve, invoke, Deferred.ofValue, e1]
    ·rename_i name first captured hv
     have h1 := hcr _ hv
     obtain ⟨ds, ds', e1, e2, e3⟩ := h1.func_inv rfl
     split at hx
     ·rename_i t v rest hlist
      split at hx
      ·rename_i i hm
       have h2 := e2.append hl
       rw [hlist] at h2
       obtain ⟨u, us, e4, e5, e6⟩ := h2.cons_inv
       obtain ⟨y, rfl, e7⟩ := e5.iface_inv
       refine calleeA_sound ht hr (us := y :: us) (LR.cons e7 e6) ?_ hx
       have h8 : ds ++ args0.map a.eval = (Value.iface t y :: us).toArray := by apply Array.ext'; rw [← e4]; simp
       simp only [execOp, resolve, e1, Deferred.ofValue, Sem.run_bind, Sem.run_pure, Result.andThen_ok]
       rw [h8]
       have h9 : (Value.iface t y :: us).toArray.extract 1 (Value.iface t y :: us).toArray.size = us.toArray := by apply Array.ext'; simp
       simp only [invoke]
       rw [show (Value.iface t y :: us).toArray[0]? = some (.iface t y) by simp]
       simp only [h9]
       rw [callMethod_run hm]
       congr 2
       apply Array.ext'; simp
      ·cases hx
     ·cases hx
    ·rename_i k first captured hv
     cases hb : first.toList.isEmpty && captured.toList.isEmpty with
     | false => rw [hb] at hx; cases hx
     | true =>
      rw [hb] at hx
      simp only [cond_true, Option.some.injEq] at hx
      subst hx
      have h1 := hcr _ hv
      obtain ⟨b, κ, e1, e2⟩ := h1.yield_inv
      refine ⟨rfl, b, κ, (args0.map a.eval).toList, e1, ?_, hl⟩
      rw [← hat]
      simp [execOp, resolve, invoke, Deferred.ofValue, e2]
    ·cases hx
   ·rename_i r name
    have hcr := hcal r (.inr ⟨name, rfl⟩)
    split at hx
    ·rename_i t v hv
     have h1 := hcr _ hv
     obtain ⟨y, e1, e2⟩ := h1.iface_inv
     split at hx
     ·rename_i i hm
      refine calleeA_sound ht hr (us := y :: (args0.map a.eval).toList) (LR.cons e2 hl) ?_ hx
      simp only [execOp, resolve, e1, Sem.run_bind, Sem.run_pure, Result.andThen_ok, invoke]
      have h0 : (#[Value.iface t y] ++ args0.map a.eval)[0]? = some (.iface t y) := by rw [Array.getElem?_append_left (by simp)]; rfl
      have h9 : (#[Value.iface t y] ++ args0.map a.eval).extract 1 (#[Value.iface t y] ++ args0.map a.eval).size = args0.map a.eval := by
       apply Array.ext'
       simp
       rw [List.take_of_length_le (by simp)]
      rw [h0]
      simp only [h9]
      rw [callMethod_run hm]
      congr 2
      apply Array.ext'; simp
     ·cases hx
    ·cases hx
  ·cases hx
 ·rename_i s d x
  split at hx
  ·rename_i p hp
   unfold vh at hx
   split at hx
   ·rename_i v h1 hs
    injection hx with hx; subst hx
    obtain ⟨u, w', σ', c1, c2, c3⟩ := bytesA_sound (P := P) hr (hg x (by simp [Op.operands]) _ hp) hs
    exact ⟨u, w', σ', by simp [execOp, c1], c2, c3⟩
   ·cases hx
  ·cases hx
 ·rename_i c
  split at hx
  ·rename_i args hargs
   have hl : LR σ args (c.args.map a.eval).toList := by
    rw [show (c.args.map a.eval).toList = c.args.toList.map a.eval by simp]
    exact opvs_sound (fun x hx => hg x (by simp [Op.operands, Call.operands]; exact .inr (by simpa using hx))) hargs
   have hcal : ∀ r, (c.callee = .value r ∨ ∃ n, c.callee = .invoke r n) → VO σ g a r := fun r hr' => hg r (by
    rcases hr' with h | ⟨n, h⟩ <;> simp [Op.operands, Call.operands, h])
   obtain ⟨callee, args0, ats⟩ := c
   simp only at hx hl hcal hargs
   split at hx
   ·rename_i r
    have hcr := hcal r (.inl rfl)
    split at hx
    ·rename_i i first captured hv
     injection hx with hx; subst hx
     have h1 := hcr _ hv
     obtain ⟨ds, ds', e1, e2, e3⟩ := h1.func_inv rfl
     refine ⟨rfl, ds ++ args0.map a.eval, ds', ?_, by rw [Array.toList_append]; exact e2.append hl, e3⟩
     simp [execOp, resolve, Deferred.ofValue, e1]
    ·cases hx
   ·cases hx
  ·cases hx
 ·cases hx
end
end Go.Proofs.YtflnpcgnenhogaaGreatDoor.ev

namespace Go.Proofs.YtflnpcgnenhogaaGreatDoor.ev
open Go Go.RowKit

def FW (r : Option Nat) : Fence := { Fence.wide with round := r }
theorem FW_none : FW none = Fence.wide := rfl
theorem FW_fn (r : Option Nat) (f : FuncId) : (FW r).fn f := trivial
theorem FW_depth (r : Option Nat) (n : Nat) : (FW r).depth.isSome = true → 1 ≤ n := fun h => by simp [FW, Fence.wide] at h
theorem callsIn_any {r r' : Option Nat} {n n' : Nat} {P : Program} {f : FuncId} {args : Array Value} {w : World} {R : Ending → World → Prop} (h : CallsIn (FW r) n P f args w R) : CallsIn (FW r') n' P f args w R :=
 ⟨trivial, fun cs _ => h.2 cs (fun d hd => by simp [FW, Fence.wide] at hd)⟩

section
variable {B : Nat} {P : Program} {σ : Sg} {h : H} {w : World}

def DR (σ : Sg) : List DE → List Deferred → Prop
 | [], ds => ds = []
 | .call g args cap :: es, ds => ∃ us cs ds', ds = { target := .fn (.func g) cs, args := us } :: ds' ∧ LR σ args us.toList ∧ LR σ cap cs.toList ∧ DR σ es ds'
 | .mark k :: es, ds => ∃ b κ ds', ds = { target := .collected b, args := #[] } :: ds' ∧ σ k = some (b, κ) ∧ DR σ es ds'
theorem DR.mono {σ σ' : Sg} (hs : σ.le σ') : ∀ {es : List DE} {ds : List Deferred}, DR σ es ds → DR σ' es ds
 | [], _, h => h
 | .call _ _ _ :: _, _, ⟨us, cs, ds', h1, h2, h3, h4⟩ => ⟨us, cs, ds', h1, h2.mono hs, h3.mono hs, DR.mono hs h4⟩
 | .mark _ :: _, _, ⟨b, κ, ds', h1, h2, h3⟩ => ⟨b, κ, ds', h1, hs _ _ h2, DR.mono hs h3⟩

def RR (σ : Sg) : Option Nat → Option Nat → Prop
 | none, r => r = none
 | some k, r => ∃ b κ, r = some b ∧ σ k = some (b, κ)
theorem RR.mono {σ σ' : Sg} (hs : σ.le σ') {x r : Option Nat} (h : RR σ x r) : RR σ' x r := by
 cases x with
 | none => exact h
 | some k => obtain ⟨b, κ, h1, h2⟩ := h; exact ⟨b, κ, h1, hs _ _ h2⟩

structure FR (σ : Sg) (f : F) (a : Act) (r : Option Nat) : Prop where
 size : a.tmps.size = f.sz
 slot : ∀ i, VR σ (f.get i) (a.tmps.getD i undef)
 ds : DR σ f.ds a.defers
 rd : RR σ f.rd r
theorem FR.mono {σ σ' : Sg} (hs : σ.le σ') {f : F} {a : Act} {r : Option Nat} (h : FR σ f a r) : FR σ' f a r := ⟨h.size, fun i => (h.slot i).mono hs, h.ds.mono hs, h.rd.mono hs⟩

theorem undef_flat : flatN 1 undef = true := rfl
theorem VR.undef {σ : Sg} : VR σ undef undef := VR.same 1 _ undef_flat

theorem put_inv {f f' : F} {dst : Option Tmp} {v : Value} (h : f.put dst v = some f') : f'.sz = f.sz ∧ f'.ds = f.ds ∧ f'.rd = f.rd ∧ (∀ d, dst = some d → d < f.sz) ∧ ∀ i, f'.get i = if dst = some i then v else f.get i := by
 obtain ⟨sz, t, ds, rd⟩ := f
 cases dst with
 | none =>
  have h : some (⟨sz, t, ds, rd⟩ : F) = some f' := h
  injection h with h; subst h
  exact ⟨rfl, rfl, rfl, (fun d hd => by cases hd), (fun i => by simp)⟩
 | some d =>
  have h : @Bool.rec (fun _ => Option F) none (T.setK 40 t v d fun t' => some ⟨sz, t', ds, rd⟩) (Nat.blt d sz) = some f' := h
  cases hb : Nat.blt d sz with
  | false => rw [hb] at h; cases h
  | true =>
   rw [hb] at h
   obtain ⟨t1, h1, h2⟩ := T.setK_inv (d := 40) v t d (fun t' => some (⟨sz, t', ds, rd⟩ : F)) h
   injection h2 with h2; subst h2
   refine ⟨rfl, rfl, rfl, fun d' hd' => by injection hd' with hd'; subst hd'; exact blt_of hb, fun i => ?_⟩
   rw [F.get_eq, F.get_eq]
   simp only [h1 i]
   by_cases hi : i = d
   ·subst hi; simp
   ·rw [if_neg hi, if_neg (by intro h; injection h with h; exact hi h.symm)]

theorem getD_put (a : Act) (dst : Option Tmp) (u : Value) (hd : ∀ d, dst = some d → d < a.tmps.size) (i : Nat) : (a.put dst u).tmps.getD i undef = if dst = some i then u else a.tmps.getD i undef := by
 cases dst with
 | none => simp [Act.put]
 | some d =>
  have hlt := hd d rfl
  simp only [Act.put]
  by_cases hi : d = i
  ·subst hi
   simp [hlt]
  ·rw [if_neg (by intro h; injection h with h; exact hi h)]
   simp [Array.getElem?_setIfInBounds_ne hi]

theorem FR.put {σ : Sg} {f f' : F} {a : Act} {r : Option Nat} (hf : FR σ f a r) {dst : Option Tmp} {v u : Value} (hp : f.put dst v = some f') (hv : VR σ v u) : FR σ f' (a.put dst u) r := by
 obtain ⟨h1, h2, h3, h4, h5⟩ := put_inv hp
 have hd : ∀ d, dst = some d → d < a.tmps.size := fun d hd => by rw [hf.size]; exact h4 d hd
 refine ⟨?_, fun i => ?_, ?_, by rw [h3]; exact hf.rd⟩
 ·rw [h1, ← hf.size]
  cases dst <;> simp [Act.put]
 ·rw [h5 i, getD_put a dst u hd i]
  by_cases hi : dst = some i
  ·rw [if_pos hi, if_pos hi]; exact hv
  ·rw [if_neg hi, if_neg hi]; exact hf.slot i
 ·rw [h2]
  cases dst <;> exact hf.ds

theorem FR.vo {σ : Sg} {f : F} {a : Act} {r : Option Nat} (hf : FR σ f a r) (hgl : ∀ i, i < 1000 → σ i = some (i, 0)) (x : Operand) : VO σ f.get a x := VO.of hgl x fun t _ => hf.slot t

theorem bool_back {σ : Sg} {v : Value} {b : Bool} (h : VR σ v (.bool b)) : v = .bool b := by
 cases h with
 | atom h => rfl

theorem wantedA_eq {σ : Sg} {ops : Array Oper} {o : Oper} {g : Nat → Value} {a : Act} (hg : ∀ j want p d, o.guard = some (j, want) → ops[j]? = some p → p.dst = some d → VR σ (g d) (a.tmps.getD d undef)) :
  wantedA ops o g = Region.wanted o (yielded ops a.tmps) := by
 unfold wantedA Region.wanted
 cases hgd : o.guard with
 | none => rfl
 | some jw =>
  obtain ⟨j, want⟩ := jw
  simp only
  unfold yielded
  cases hj : ops[j]? with
  | none => rfl
  | some p =>
   simp only [Option.bind_some]
   cases hd : p.dst with
   | none => rfl
   | some d =>
    simp only [Option.bind_some]
    have hv := hg j want p d hgd hj hd
    cases ht : a.tmps[d]? with
    | none =>
     have : a.tmps.getD d undef = undef := by simp [ht]
     rw [this] at hv
     have hnb : ∀ b, g d ≠ .bool b := fun b hb => by rw [hb] at hv; have := hv.atom_inv rfl; simp [undef] at this
     cases hgd' : g d <;> first | rfl | exact absurd hgd' (hnb _)
    | some u =>
     have : a.tmps.getD d undef = u := by simp [ht]
     rw [this] at hv
     cases u with
     | bool b => rw [bool_back hv]; simp
     | _ =>
      have hnb : ∀ b, g d ≠ .bool b := fun b hb => by rw [hb] at hv; have := hv.atom_inv rfl; simp at this
      cases hgd' : g d <;> first | rfl | exact absurd hgd' (hnb _)

/-! ### what the walk of a body must be -/
def XR : X → Exit → Prop
 | .normal, e => e = .normal
 | .exit id, e => e = .exit id
 | .ret, e => e = .ret
def Post (B : Nat) (σ : Sg) (h : H) (w : World) (r : Option Nat) (x : X) (f' : F) (h' : H) : Exit → Act → World → Prop := fun e a' w' =>
 XR x e ∧ ∃ σ', FR σ' f' a' r ∧ Step B σ h.heap.get h.next w σ' h'.heap.get h'.next w'
def RecOk (P : Program) (rec : Code → F → H → Option R) : Prop :=
 ∀ (c : Code) (f : F) (h : H) (x : X) (f' : F) (h' : H), rec c f h = some ⟨x, f', h'⟩ → ∀ (B : Nat) (σ : Sg) (a : Act) (w : World) (r : Option Nat) (n : Nat), FR σ f a r → HR B σ h.heap.get h.next w →
  c.wpIn (FW r) n P (Post B σ h w r x f' h') a w

theorem loadAt_of {p : Value} {t : TypeId} {x : Value} (h : (Instr.loadAt t p).run P w = .ok x w) (hp : ∃ a, p = .pointer (some a)) : (do loadVar t (← asAddr p) : Sem Value).run P w = .ok x w := by
 obtain ⟨a, rfl⟩ := hp
 simpa [Instr.loadAt, Instr.sureAddr, asAddr] using h

def rv (tmps : Array Value) : ResultVar → Sem Value
 | .tmp t => pure (tmps.getD t undef)
 | .cell a t => do loadVar t (← asAddr (tmps.getD a undef))
theorem results_eq (fn : Func) (tmps : Array Value) : results fn tmps = (do
  let vs ← fn.results.mapM (rv tmps)
  pure (if h : vs.size = 1 then vs[0] else .tuple vs)) := by
 unfold results
 congr 1
theorem resOf_sound (hr : HR B σ h.heap.get h.next w) {f : F} {a : Act} {r : Option Nat} (hf : FR σ f a r) : ∀ {rs : List ResultVar} {l : List Value}, resOf P f h rs = some l →
  ∃ us : List Value, (rs.mapM (rv a.tmps)).run P w = .ok us w ∧ LR σ l us
 | [], l, hl => by simp only [resOf, Option.some.injEq] at hl; subst hl; exact ⟨[], by simp, LR.nil⟩
 | .tmp t :: rs, l, hl => by
  simp only [resOf] at hl
  split at hl
  ·rename_i l' hl'
   injection hl with hl; subst hl
   obtain ⟨us, h1, h2⟩ := resOf_sound hr hf hl'
   refine ⟨a.tmps.getD t undef :: us, ?_, LR.cons (hf.slot t) h2⟩
   simp only [List.mapM_cons, rv, Sem.run_bind, Sem.run_pure, Result.andThen_ok, h1]
  ·cases hl
 | .cell a' t :: rs, l, hl => by
  simp only [resOf] at hl
  split at hl
  ·rename_i v hv
   split at hl
   ·rename_i l' hl'
    injection hl with hl; subst hl
    obtain ⟨us, h1, h2⟩ := resOf_sound hr hf hl'
    obtain ⟨x, h3, h4⟩ := loadA_sound (P := P) hr hv (hf.slot a')
    have hp : ∃ q, a.tmps.getD a' undef = .pointer (some q) := by
     unfold loadA at hv
     have hs := hf.slot a'
     split at hv
     ·rename_i k off he
      rw [he] at hs
      obtain ⟨b, κ, _, e⟩ := hs.ptr_inv
      exact ⟨_, e⟩
     ·cases hv
    have h5 := loadAt_of h3 hp
    refine ⟨x :: us, ?_, LR.cons h4 h2⟩
    simp only [List.mapM_cons]
    rw [Sem.run_bind, show (rv a.tmps (.cell a' t)) = (do loadVar t (← asAddr (a.tmps.getD a' undef)) : Sem Value) from rfl, h5]
    simp only [Result.andThen_ok, Sem.run_bind, h1, Sem.run_pure]
   ·cases hl
  ·cases hl

theorem results_sound (hr : HR B σ h.heap.get h.next w) {f : F} {a : Act} {r : Option Nat} (hf : FR σ f a r) {fn : Func} {l : List Value} (hl : resOf P f h fn.results.toList = some l) :
  ∃ u, (results fn a.tmps).run P w = .ok u w ∧ VR σ (resV l) u := by
 obtain ⟨us, h1, h2⟩ := resOf_sound (P := P) hr hf hl
 have h3 : (fn.results.mapM (rv a.tmps)).run P w = .ok us.toArray w := by
  rw [Array.mapM_eq_mapM_toList]
  rw [map_eq_pure_bind, Sem.run_bind, h1]
  rfl
 rw [results_eq, Sem.run_bind, h3]
 simp only [Result.andThen_ok, Sem.run_pure]
 refine ⟨_, rfl, ?_⟩
 cases l with
 | nil =>
  have := h2.nil_inv
  subst this
  exact VR.same 1 _ rfl
 | cons v l =>
  obtain ⟨u, us', rfl, h4, h5⟩ := h2.cons_inv
  cases l with
  | nil =>
   have := h5.nil_inv
   subst this
   exact h4
  | cons v2 l =>
   obtain ⟨u2, us2, rfl, h6, h7⟩ := h5.cons_inv
   simp only [resV]
   rw [dif_neg (by simp)]
   exact (LR.cons h4 (LR.cons h6 h7)).tuple
end
end Go.Proofs.YtflnpcgnenhogaaGreatDoor.ev

namespace Go.Proofs.YtflnpcgnenhogaaGreatDoor.ev
open Go Go.RowKit

section
variable {B : Nat} {P : Program} {σ : Sg} {h : H} {w : World} {tab : Tab} {rec : Code → F → H → Option R}

theorem initF_sound {n : Nat} {args us : List Value} {f : F} (hi : initF n args = some f) (hl : LR σ args us) : FR σ f { tmps := us.toArray ++ Array.replicate (n - us.toArray.size) undef, defers := [] } none := by
 unfold initF at hi
 cases hb : Nat.ble args.length n with
 | false => rw [hb] at hi; cases hi
 | true =>
  rw [hb] at hi
  simp only [cond_true] at hi
  have hb := ble_of hb
  split at hi
  ·rename_i t ht
   injection hi with hi; subst hi
   have hln := hl.1
   refine ⟨by simp; omega, fun i => ?_, rfl, rfl⟩
   have hg := T.get_setMany args .leaf t 0 ht i
   rw [F.get_eq]
   simp only [hg]
   by_cases hi : i < args.length
   ·rw [if_pos ⟨Nat.zero_le _, by omega⟩, Nat.sub_zero]
    have h2 : args[i]? = some args[i] := List.getElem?_eq_getElem hi
    obtain ⟨u, h3, h4⟩ := hl.get h2
    rw [h2]
    have hiu : i < us.length := by omega
    have : (us.toArray ++ Array.replicate (n - us.toArray.size) undef).getD i undef = u := by
     have h5 : us[i] = u := by rw [List.getElem?_eq_getElem hiu] at h3; injection h3
     simp [Array.getElem?_append, hiu, h5]
    rw [this]
    exact h4
   ·rw [if_neg (by omega)]
    have : (us.toArray ++ Array.replicate (n - us.toArray.size) undef).getD i undef = undef := by
     simp [Array.getElem?_append, show ¬ i < us.length by omega]
     rw [Array.getElem?_replicate]
     by_cases hq : i - us.length < n - us.length
     ·rw [if_pos hq]; rfl
     ·rw [if_neg hq]; rfl
    rw [this]
    simp only [T.get_leaf]
    exact VR.undef
  ·cases hi

theorem deferA_sound (ht : TabOk P tab) (hrec : RecOk P rec) (hr : HR B σ h.heap.get h.next w) {g : FuncId} {args us : List Value} {h' : H} (hl : LR σ args us) (hd : deferA tab rec g args h = some h') (n : Nat) (u : FrameMode) :
  (callFunc g us.toArray).run P w = .ok (.enter g us.toArray) w ∧ CallsDIn (FW none) n P g us.toArray u w fun e u' w' => u' = u ∧ (∃ v, e = .returned v) ∧ ∃ σ', Step B σ h.heap.get h.next w σ' h'.heap.get h'.next w' := by
 unfold deferA at hd
 split at hd
 ·rename_i fn hfn
  split at hd
  ·rename_i c hb
   split at hd
   ·rename_i f hf
    obtain ⟨a1, a2, _⟩ := ht g fn hfn
    have key : ∀ x ds rd sz t h1, rec c f h = some ⟨x, ⟨sz, t, [], rd⟩, h1⟩ → (x = .normal ∨ x = .ret) → (match fn.fn.results.toList with | [] => some h1 | _ => none) = some h' → ds = ([] : List DE) →
      CallsDIn (FW none) n P g us.toArray u w fun e u' w' => u' = u ∧ (∃ v, e = .returned v) ∧ ∃ σ', Step B σ h.heap.get h.next w σ' h'.heap.get h'.next w' := by
     intro x ds rd sz t h1 hrx hx hres _
     have hres' : fn.fn.results = #[] ∧ h1 = h' := by
      split at hres
      ·rename_i hn; injection hres with hres; exact ⟨by apply Array.ext'; rw [hn], hres⟩
      ·cases hres
     obtain ⟨hr0, rfl⟩ := hres'
     have hw := hrec c f h x _ h1 hrx B σ _ w none n (initF_sound hf hl) hr
     refine (callsDIn_of_wp (F := FW none) (u := u) (R := fun e w' => (∃ v, e = .returned v) ∧ ∃ σ', Step B σ h.heap.get h.next w σ' h1.heap.get h1.next w') a1 hb trivial (wpIn_mono hw ?_)).mono ?_
     ·rintro e a' w' ⟨hxr, σ', hf', hst⟩
      have hnil : a'.defers = [] := hf'.ds
      rcases hx with rfl | rfl
      ·have : e = .normal := hxr
       subst this
       exact ⟨hnil, .tuple #[], results_none hr0 _ _ _, ⟨_, rfl⟩, σ', hst⟩
      ·have : e = .ret := hxr
       subst this
       exact ⟨hnil, .tuple #[], results_none hr0 _ _ _, ⟨_, rfl⟩, σ', hst⟩
     ·rintro e u' w' ⟨h1, h2, h3⟩
      exact ⟨h1, h2, h3⟩
    refine ⟨callee_run ht hfn hb _, ?_⟩
    split at hd
    ·rename_i sz t rd h1 hrx
     exact key .normal [] rd sz t h1 hrx (.inl rfl) hd rfl
    ·rename_i sz t rd h1 hrx
     exact key .ret [] rd sz t h1 hrx (.inr rfl) hd rfl
    ·cases hd
   ·cases hd
  ·cases hd
 ·cases hd

theorem HR.putObj (hr : HR B σ h.heap.get h.next w) {k : Nat} {o o2 : AO} (hk : h.heap.get k = some o) (hd : o.isDead = false) (hro : o.ro = false) {b κ : Nat} (hs : σ k = some (b, κ)) {ob : Obj} (ho : ORel σ κ o2 ob) {h' : H} (hh : h.set k o2 = some h') :
  Step B σ h.heap.get h.next w σ h'.heap.get h'.next (w.putObj b ob) := by
 obtain ⟨e1, e2, e3⟩ := H.set_inv hh
 have hlt := hr.lt_of hk hd hs
 rw [e1]
 exact hr.write (o' := o2) (ob' := ob) (w' := w.putObj b ob) hk hd hro hs rfl rfl rfl (by simp) (World.putObj_heap_same hlt) (fun x hx => World.putObj_heap_other hx) ho e2 e3

theorem defersA_sound (ht : TabOk P tab) (hrec : RecOk P rec) {fn : Func} {tmps : Array Value} {R : Ending → World → Prop} {h' : H} (n : Nat) : ∀ (es : List DE) (ds : List Deferred) (σ : Sg) (h : H) (w : World), defersA tab rec es h = some h' → DR σ es ds → HR B σ h.heap.get h.next w →
  (∀ σ' w', σ.le σ' → Step B σ h.heap.get h.next w σ' h'.heap.get h'.next w' → ∃ v, (results fn tmps).run P w' = .ok v w' ∧ R (.returned v) w') → LeavesInM (FW none) n P fn tmps R ds .returning w
 | [], ds, σ, h, w, hd, hds, hr, hfin => by
  simp only [defersA, Option.some.injEq] at hd
  subst hd
  have : ds = [] := hds
  subst this
  exact hfin σ w (Sg.le.refl _) (Step.refl hr)
 | .call g args cap :: es, ds, σ, h, w, hd, hds, hr, hfin => by
  obtain ⟨us, cs, ds', rfl, h1, h2, h3⟩ := hds
  simp only [defersA] at hd
  split at hd
  ·rename_i h1' hdef
   obtain ⟨c1, c2⟩ := deferA_sound ht hrec hr (us := us.toList ++ cs.toList) (h1.append h2) hdef (n - 1) .returning
   have harr : (us.toList ++ cs.toList).toArray = us ++ cs := by apply Array.ext'; simp
   rw [harr] at c1 c2
   refine ⟨by simp, .inr ⟨FW_depth none n, .func g, cs, g, us ++ cs, rfl, ?_, fun _ _ => trivial, c2.mono ?_⟩⟩
   ·simp only [invoke]; exact c1
   ·rintro e u' w' ⟨rfl, ⟨v, rfl⟩, σ', hst⟩
    exact defersA_sound ht hrec n es ds' σ' h1' w' hd (h3.mono (hst.le hr)) hst.hr fun σ2 w2 hle hst2 => hfin σ2 w2 ((hst.le hr).trans hle) (hst.trans hst2)
  ·cases hd
 | .mark k :: es, ds, σ, h, w, hd, hds, hr, hfin => by
  obtain ⟨b, κ, ds', rfl, h1, h3⟩ := hds
  simp only [defersA] at hd
  split at hd
  ·rename_i hk
   split at hd
   ·rename_i h1' hset
    obtain ⟨b', κ', ob, e1, e2, e3, _⟩ := hr.live k _ hk rfl
    rw [h1] at e1; injection e1 with e1; injection e1 with e1 e4; subst e1; subst e4
    have e5 : ob = .deferred (some []) := e3
    subst e5
    have hst := hr.putObj (o2 := .defd true) (ob := .deferred none) hk rfl rfl h1 rfl hset
    refine ⟨by simp, .inl ⟨b, _, rfl, run_takeDeferred e2, ?_⟩⟩
    exact defersA_sound ht hrec n es ds' σ h1' _ hd h3 hst.hr fun σ2 w2 hle hst2 => hfin σ2 w2 hle (hst.trans hst2)
   ·cases hd
  ·cases hd

theorem callA_sound (ht : TabOk P tab) (hrec : RecOk P rec) (hr : HR B σ h.heap.get h.next w) {g : FuncId} {args us : List Value} {v : Value} {h' : H} (hl : LR σ args us) (hc : callA P tab rec g args h = some (v, h')) (n : Nat) :
  CallsIn (FW none) n P g us.toArray w (CallPost B σ h w v h') := by
 unfold callA at hc
 split at hc
 ·rename_i fn hfn
  obtain ⟨a1, a2, a3⟩ := ht g fn hfn
  split at hc
  ·rename_i r hans
   split at hans
   ·rename_i t ht'
    rw [hc] at hans
    exact (a3 t ht').1 args h v h' hans B σ us w n hr hl
   ·cases hans
  ·split at hc
   ·rename_i c hb
    split at hc
    ·rename_i f hf
     have key : ∀ x f' h1, rec c f h = some ⟨x, f', h1⟩ → (x = .normal ∨ x = .ret) → (match defersA tab rec f'.ds h1 with
       | some h' => (match resOf P f' h' fn.fn.results.toList with | some l => some (resV l, h') | none => none)
       | none => none) = some (v, h') → CallsIn (FW none) n P g us.toArray w (CallPost B σ h w v h') := by
      intro x f' h1 hrx hx hres
      split at hres
      ·rename_i h2 hdef
       split at hres
       ·rename_i l hl'
        simp only [Option.some.injEq, Prod.mk.injEq] at hres
        obtain ⟨rfl, rfl⟩ := hres
        have hw := hrec c f h x _ h1 hrx B σ _ w none n (initF_sound hf hl) hr
        refine callsIn_of_wp_marks a1 hb trivial (wpIn_mono hw ?_)
        rintro e a' w' ⟨hxr, σ', hf', hst⟩
        have hle := hst.le hr
        have hleave : LeavesInM (FW none) n P fn.fn a'.tmps (CallPost B σ h w (resV l) h2) a'.defers .returning w' :=
         defersA_sound ht hrec n f'.ds a'.defers σ' h1 w' hdef hf'.ds hst.hr fun σ2 w2 hle2 hst2 => by
          obtain ⟨u, b1, b2⟩ := results_sound (P := P) hst2.hr (hf'.mono hle2) hl'
          exact ⟨u, b1, u, σ2, rfl, b2, hst.trans hst2⟩
        rcases hx with rfl | rfl
        ·have : e = .normal := hxr
         subst this
         exact hleave
        ·have : e = .ret := hxr
         subst this
         exact hleave
       ·cases hres
      ·cases hres
     split at hc
     ·rename_i f' h1 hrx
      exact key .normal f' h1 hrx (.inl rfl) hc
     ·rename_i f' h1 hrx
      exact key .ret f' h1 hrx (.inr rfl) hc
     ·cases hc
    ·cases hc
   ·cases hc
 ·cases hc

theorem setParams_sound : ∀ {ts : List Tmp} {vs us : List Value} {f f' : F} {a : Act} {r : Option Nat}, FR σ f a r → LR σ vs us → setParams ts vs f = some f' →
  ts.length = us.length ∧ FR σ f' { a with tmps := (ts.zip us).foldl (fun tmps (t, x) => tmps.setIfInBounds t x) a.tmps } r
 | [], [], us, f, f', a, r, hf, hl, h => by
  simp only [setParams, Option.some.injEq] at h; subst h
  have := hl.nil_inv
  subst this
  exact ⟨rfl, hf⟩
 | [], _ :: _, _, _, _, _, _, _, _, h => by simp [setParams] at h
 | _ :: _, [], _, _, _, _, _, _, _, h => by simp [setParams] at h
 | t :: ts, v :: vs, us, f, f', a, r, hf, hl, h => by
  obtain ⟨u, us', rfl, h1, h2⟩ := hl.cons_inv
  simp only [setParams] at h
  split at h
  ·rename_i f1 hp
   obtain ⟨b1, b2⟩ := setParams_sound (hf.put hp h1) h2 h
   exact ⟨by simp [b1], b2⟩
  ·cases h

theorem HR.loopAt (hr : HR B σ h.heap.get h.next w) {k : Nat} {st : LoopState} {pd : Option Code} {f : F} {ps : List Tmp} {assign body : Code} {db : Nat} (hk : h.heap.get k = some (.loop st pd f ps assign body db)) {b κ : Nat} (hs : σ k = some (b, κ)) :
  ∃ l : Loop, w.heap[b]? = some (.loop l) ∧ l.state = st ∧ l.pending = pd ∧ l.params.toList = ps ∧ l.assign = assign ∧ l.body = body ∧ (∃ κ', σ db = some (l.defers, κ')) ∧ l.tmps.size = f.sz ∧ ∀ i, VR σ (f.get i) (l.tmps.getD i undef) := by
 obtain ⟨b', κ', ob, e1, e2, ⟨l, rfl, h2⟩, _⟩ := hr.live k _ hk rfl
 rw [hs] at e1; injection e1 with e1; injection e1 with e1 e3; subst e1
 exact ⟨l, e2, h2⟩

theorem roundA_sound (hrec : RecOk P rec) (hr : HR B σ h.heap.get h.next w) {k : Nat} {args us : List Value} {v : Value} {h' : H} (hl : LR σ args us) (hc : roundA rec k args h = some (v, h')) {b κ : Nat} (hs : σ k = some (b, κ)) (r : Option Nat) (n : Nat) :
  ∃ l : Loop, ∃ tmps, (Instr.yield b us.toArray).run P w = .ok (.round b l.fn tmps l.assign l.body) w ∧ RoundIn (FW r) n P b l.fn tmps l.assign l.body w (CallPost B σ h w v h') := by
 unfold roundA at hc
 split at hc
 ·rename_i pd f ps assign body db hk
  obtain ⟨l, l1, l2, l3, l4, l5, l6, l7, l8, l9⟩ := hr.loopAt hk hs
  split at hc
  ·rename_i f0 hp
   have hfr0 : FR σ ⟨f.sz, f.t, [], some k⟩ { tmps := l.tmps, defers := [] } (some b) := ⟨l8, fun i => l9 i, rfl, b, κ, rfl, hs⟩
   obtain ⟨p1, p2⟩ := setParams_sound hfr0 hl hp
   refine ⟨l, _, run_yield l1 (by rw [← l4] at p1; simp at p1 ⊢; omega), ?_⟩
   have harr : (l.params.zip us.toArray).foldl (fun tmps (t, a) => tmps.setIfInBounds t a) l.tmps = (ps.zip us).foldl (fun tmps (t, x) => tmps.setIfInBounds t x) l.tmps := by
    rw [← Array.foldl_toList, ← l4]
    simp
   rw [harr]
   split at hc
   ·rename_i f1 h1 hra
    split at hc
    ·rename_i pd1 f1' ps1 as1 bd1 db1 hk1
     split at hc
     ·rename_i h2 hset1
      split at hc
      ·rename_i x f2 h3 hrb
       split at hc
       ·rename_i st3 pd3 f3 ps3 as3 bd3 db3 hk3
        refine roundIn_of_wpIn (F := FW r) trivial ?_
        have hwa := hrec assign f0 h .normal f1 h1 hra B σ _ w (some b) n p2 hr
        rw [l5]
        refine wpIn_mono hwa ?_
        rintro e a1 w1 ⟨hxr, σ1, hf1, hst1⟩
        have he : e = .normal := hxr
        subst he
        have hle1 := hst1.le hr
        have hs1 := hle1 _ _ hs
        obtain ⟨m, m1, m2, m3, m4, m5, m6, m7, m8, m9⟩ := hst1.hr.loopAt hk1 hs1
        have hst2 := hst1.hr.putObj (o2 := .loop .busy pd1 f1' ps1 as1 bd1 db1) (ob := .loop { m with state := .busy }) hk1 rfl rfl hs1 ⟨{ m with state := .busy }, rfl, rfl, m3, m4, m5, m6, m7, m8, m9⟩ hset1
        show ∃ w₂, (Instr.beginRound b).run P w1 = .ok () w₂ ∧ l.body.wpIn ((FW r).inRound b) n P (roundPost P b (CallPost B σ h w v h')) a1 w₂
        refine ⟨_, run_beginRound m1 ?_, ?_⟩
        ·exact m2
        ·rw [l6]
         have hwb := hrec body f1 h2 x f2 h3 hrb B σ1 a1 _ (some b) n hf1 hst2.hr
         refine wpIn_mono hwb ?_
         rintro e a2 w3 ⟨hxr2, σ3, hf2, hst3⟩
         have hle3 := hst3.le hst2.hr
         have hs3 := hle3 _ _ hs1
         obtain ⟨q, q1, q2, q3, q4, q5, q6, q7, q8, q9⟩ := hst3.hr.loopAt hk3 hs3
         have hall := (hst1.trans hst2).trans hst3
         have fin : ∀ (jump : Option Code) (h4 : H), h3.set k (.loop (if jump.isNone then .ready else .done) jump f3 ps3 as3 bd3 db3) = some h4 → v = .bool jump.isNone → h4 = h' →
           ∃ v' w', (Instr.endRound b jump).run P w3 = .ok v' w' ∧ CallPost B σ h w v h' (.returned v') w' := fun jump h4 hset2 hv hh => by
          subst hh; subst hv
          have hst4 := hst3.hr.putObj (o2 := .loop (if jump.isNone then .ready else .done) jump f3 ps3 as3 bd3 db3) (ob := .loop { q with state := if jump.isNone then .ready else .done, pending := jump }) hk3 rfl rfl hs3 ⟨_, rfl, rfl, rfl, q4, q5, q6, q7, q8, q9⟩ hset2
          exact ⟨_, _, run_endRound jump q1, _, σ3, rfl, .atom rfl, hall.trans hst4⟩
         cases x with
         | normal =>
          have he : e = .normal := hxr2
          subst he
          simp only at hc
          split at hc
          ·rename_i h4 hset2
           simp only [Option.some.injEq, Prod.mk.injEq] at hc
           obtain ⟨rfl, rfl⟩ := hc
           exact fin none _ hset2 rfl rfl
          ·cases hc
         | ret =>
          have he : e = .ret := hxr2
          subst he
          simp only at hc
          split at hc
          ·rename_i h4 hset2
           simp only [Option.some.injEq, Prod.mk.injEq] at hc
           obtain ⟨rfl, rfl⟩ := hc
           exact fin (some .ret) _ hset2 rfl rfl
          ·cases hc
         | exit id =>
          have he : e = .exit id := hxr2
          subst he
          simp only at hc
          split at hc
          ·rename_i h4 hset2
           simp only [Option.some.injEq, Prod.mk.injEq] at hc
           obtain ⟨rfl, rfl⟩ := hc
           exact fin (some (.exit id)) _ hset2 rfl rfl
          ·cases hc
       ·cases hc
      ·cases hc
     ·cases hc
    ·cases hc
   ·cases hc
  ·cases hc
 ·cases hc
end
end Go.Proofs.YtflnpcgnenhogaaGreatDoor.ev

namespace Go.Proofs.YtflnpcgnenhogaaGreatDoor.ev
open Go Go.RowKit

section
variable {B : Nat} {P : Program} {σ : Sg} {h : H} {w : World} {tab : Tab} {rec : Code → F → H → Option R}

/-! ### which operations put off a call -/
theorem kind_defer {op : Op} {k : Nat} (hk : kindOf P op = k) (h2 : k < 2) : ∀ c, op ≠ .defer c := by
 rintro c rfl
 simp only [kindOf] at hk
 omega
theorem xw_defer {o : Oper} {g : Nat → Value} {r : AN} {c : Call} (ho : o.op = .defer c) (hx : xw P tab o g h = some r) : ∃ i args cap h', r = .defer i args cap h' := by
 unfold xw stW at hx
 rw [ho] at hx
 simp only at hx
 split at hx
 ·split at hx
  ·split at hx
   ·injection hx with hx; exact ⟨_, _, _, _, hx.symm⟩
   ·cases hx
  ·cases hx
 ·cases hx

theorem about_FW {r : Option Nat} {o : Oper} {a : Act} (w : World) : ∀ f, o.about P w a.eval = some f → (FW r).fn f := fun f _ => FW_fn r f

/-- an operation that neither makes memory nor writes any -/
theorem opQ_sound {r : Option Nat} {n : Nat} {o : Oper} {a : Act} {v : Value} {g : Nat → Value} {nx : Nat} (hr : HR B σ h.heap.get nx w) (hk : kindOf P o.op = 0) (hg : ∀ x ∈ o.op.operands.toList, VO σ g a x) (hx : xq P o g h = some v) {K : Act → World → Prop} {Q : Exit → Act → World → Prop}
  (hK : ∀ u, VR σ v u → K (a.put o.dst u) w) : o.wpIn (FW r) n P a w K Q := by
 obtain ⟨u, h1, h2⟩ := xq_sound hr hg hx
 refine ⟨about_FW w, ?_⟩
 rw [Oper.semAt_eq _ _ _ (kind_defer hk (by omega)), h1]
 exact hK u h2

/-- an operation that makes a block -/
theorem opM_sound {r : Option Nat} {n : Nat} {o : Oper} {a : Act} {v : Value} {g : Nat → Value} {id : Nat} {rw : AO} (hk : kindOf P o.op = 1) (hg : ∀ x ∈ o.op.operands.toList, VO σ g a x) (hx : xa P o g id = some (v, rw)) {K : Act → World → Prop} {Q : Exit → Act → World → Prop}
  (hK : ∀ u ob, (∀ σ' κ, σ.le σ' → σ' id = some (w.heap.size, κ) → VR σ' v u ∧ ORel σ' κ rw ob) → K (a.put o.dst u) (w.alloc ob)) : o.wpIn (FW r) n P a w K Q := by
 obtain ⟨_, U, ob, h1, h2⟩ := xa_sound hg hx
 refine ⟨about_FW w, ?_⟩
 rw [Oper.semAt_eq _ _ _ (kind_defer hk (by omega)), h1]
 exact hK _ _ fun σ' κ hle hs => h2 σ' _ κ hle hs

/-- an operation that writes or calls -/
theorem opW_sound (ht : TabOk P tab) (hrec : RecOk P rec) {r : Option Nat} {n : Nat} {o : Oper} {a : Act} {v : Value} {f : F} {h' : H} (hr : HR B σ h.heap.get h.next w) (hg : ∀ x ∈ o.op.operands.toList, VO σ f.get a x) (hx : wrA P tab rec o f h = some (v, h')) {K : Act → World → Prop} {Q : Exit → Act → World → Prop}
  (hK : ∀ u σ' w', VR σ' v u → Step B σ h.heap.get h.next w σ' h'.heap.get h'.next w' → K (a.put o.dst u) w') : o.wpIn (FW r) n P a w K Q := by
 refine ⟨about_FW w, ?_⟩
 unfold wrA at hx
 split at hx
 ·rename_i v1 h1 he
  simp only [Option.some.injEq, Prod.mk.injEq] at hx
  obtain ⟨rfl, rfl⟩ := hx
  obtain ⟨u, w', σ', c1, c2, c3⟩ := xw_sound ht hr hg he
  rw [Oper.semAt_eq _ _ _ (fun c hc => by obtain ⟨_, _, _, _, e⟩ := xw_defer hc he; cases e), c1]
  exact hK u σ' w' c2 c3
 ·rename_i h1 he
  simp only [Option.some.injEq, Prod.mk.injEq] at hx
  obtain ⟨rfl, rfl⟩ := hx
  obtain ⟨w', σ', c1, c3⟩ := xw_sound ht hr hg he
  rw [Oper.semAt_eq _ _ _ (fun c hc => by obtain ⟨_, _, _, _, e⟩ := xw_defer hc he; cases e), c1]
  exact hK _ σ' w' VR.undef c3
 ·rename_i g args h1 he
  obtain ⟨rfl, us, c1, c2⟩ := xw_sound ht hr hg he
  rw [Oper.semAt_eq _ _ _ (fun c hc => by obtain ⟨_, _, _, _, e⟩ := xw_defer hc he; cases e), c1]
  refine ⟨FW_depth r n, (callsIn_any (callA_sound ht hrec hr c2 hx n)).mono ?_⟩
  rintro e w' ⟨u, σ', rfl, d1, d2⟩
  exact hK u σ' w' d1 d2
 ·rename_i k args h1 he
  obtain ⟨rfl, b, κ, us, c0, c1, c2⟩ := xw_sound ht hr hg he
  obtain ⟨l, tmps, d1, d2⟩ := roundA_sound hrec hr c2 hx c0 r (n - 1)
  rw [Oper.semAt_eq _ _ _ (fun c hc => by obtain ⟨_, _, _, _, e⟩ := xw_defer hc he; cases e), c1, d1]
  refine ⟨FW_depth r n, RoundIn.mono d2 ?_⟩
  rintro e w' ⟨u, σ', rfl, e1, e2⟩
  exact hK u σ' w' e1 e2
 ·cases hx
end
end Go.Proofs.YtflnpcgnenhogaaGreatDoor.ev

namespace Go.Proofs.YtflnpcgnenhogaaGreatDoor.ev
open Go Go.RowKit

section
variable {B : Nat} {P : Program} {σ : Sg} {h : H} {w : World} {tab : Tab} {rec : Code → F → H → Option R}

theorem opA_sound (ht : TabOk P tab) (hrec : RecOk P rec) {r : Option Nat} {n : Nat} {o : Oper} {a : Act} {f f' : F} {h' : H} (hf : FR σ f a r) (hr : HR B σ h.heap.get h.next w) (hx : opA P tab rec o f h = some (f', h')) {K : Act → World → Prop} {Q : Exit → Act → World → Prop}
  (hK : ∀ a' σ' w', FR σ' f' a' r → Step B σ h.heap.get h.next w σ' h'.heap.get h'.next w' → K a' w') : o.wpIn (FW r) n P a w K Q := by
 have hg : ∀ x ∈ o.op.operands.toList, VO σ f.get a x := fun x _ => hf.vo hr.glob x
 unfold opA at hx
 split at hx
 ·rename_i hk
  split at hx
  ·rename_i v hv
   split at hx
   ·rename_i f1 hp
    simp only [Option.some.injEq, Prod.mk.injEq] at hx
    obtain ⟨rfl, rfl⟩ := hx
    exact opQ_sound hr hk hg hv fun u hu => hK _ σ w (hf.put hp hu) (Step.refl hr)
   ·cases hx
  ·cases hx
 ·rename_i hk
  split at hx
  ·rename_i v rw hv
   split at hx
   ·rename_i k h1 hn
    split at hx
    ·rename_i f1 hp
     simp only [Option.some.injEq, Prod.mk.injEq] at hx
     obtain ⟨rfl, rfl⟩ := hx
     obtain ⟨rfl, e2, e3, e4⟩ := H.new_inv hn
     refine opM_sound (σ := σ) hk hg hv fun u ob hu => ?_
     have hle : σ.le (σ.set h.next w.heap.size 0) := Sg.set_le _ _ (hr.fresh _ (Nat.le_refl _)).1
     obtain ⟨c1, c2⟩ := hu (σ.set h.next w.heap.size 0) 0 hle (Sg.set_same _ _ _ _)
     refine hK _ _ _ ((hf.mono hle).put hp c1) ?_
     rw [e2]
     exact hr.newB (w' := w.alloc ob) rfl rfl rfl rfl c2 e3 e4
    ·cases hx
   ·cases hx
  ·cases hx
 ·have hwr : ∀ {v h1 f1}, wrA P tab rec o f h = some (v, h1) → f.put o.dst v = some f1 → f1 = f' → h1 = h' → o.wpIn (FW r) n P a w K Q := fun {v h1 f1} h1 h2 h3 h4 => by
   subst h3; subst h4
   exact opW_sound ht hrec hr hg h1 fun u σ' w' d1 d2 => hK _ σ' w' ((hf.mono (d2.le hr)).put h2 d1) d2
  split at hx
  ·rename_i v h1 he
   split at hx
   ·rename_i f1 hp
    simp only [Option.some.injEq, Prod.mk.injEq] at hx
    exact hwr (by unfold wrA; rw [he]) hp hx.1 hx.2
   ·cases hx
  ·rename_i h1 he
   split at hx
   ·rename_i f1 hp
    simp only [Option.some.injEq, Prod.mk.injEq] at hx
    exact hwr (by unfold wrA; rw [he]) hp hx.1 hx.2
   ·cases hx
  ·rename_i g args h1 he
   split at hx
   ·rename_i v h2 hc
    split at hx
    ·rename_i f1 hp
     simp only [Option.some.injEq, Prod.mk.injEq] at hx
     exact hwr (by unfold wrA; rw [he]; exact hc) hp hx.1 hx.2
    ·cases hx
   ·cases hx
  ·rename_i g args cap h1 he
   split at hx
   ·rename_i hrd
    split at hx
    ·rename_i f1 hp
     simp only [Option.some.injEq, Prod.mk.injEq] at hx
     obtain ⟨rfl, rfl⟩ := hx
     obtain ⟨rfl, us, cs, c1, c2, c3⟩ := xw_sound ht hr hg he
     have hr0 : r = none := by have := hf.rd; rw [hrd] at this; exact this
     subst hr0
     refine ⟨about_FW w, ?_⟩
     rw [show (FW none).round = none from rfl, Oper.semAt_none, c1]
     refine hK _ σ w (FR.put (f := ⟨f.sz, f.t, .call g args cap :: f.ds, none⟩) (a := { a with defers := { target := .fn (.func g) cs, args := us } :: a.defers }) ⟨hf.size, hf.slot, ⟨us, cs, _, rfl, c2, c3, hf.ds⟩, rfl⟩ hp VR.undef) (Step.refl hr)
    ·cases hx
   ·cases hx
  ·rename_i k args h1 he
   split at hx
   ·rename_i v h2 hc
    split at hx
    ·rename_i f1 hp
     simp only [Option.some.injEq, Prod.mk.injEq] at hx
     exact hwr (by unfold wrA; rw [he]; exact hc) hp hx.1 hx.2
    ·cases hx
   ·cases hx
  ·cases hx

theorem opsA_sound (ht : TabOk P tab) (hrec : RecOk P rec) {r : Option Nat} {n : Nat} {ops : Array Oper} {f' : F} {h' : H} {Q : Exit → Act → World → Prop} : ∀ (os : List Oper) (i : Nat) (σ : Sg) (f : F) (h : H) (a : Act) (w : World),
  ops.toList = ops.toList.take i ++ os → i + os.length = ops.size → FR σ f a r → HR B σ h.heap.get h.next w → opsA P tab rec ops os f h = some (f', h') →
  (∀ a' σ' w', FR σ' f' a' r → Step B σ h.heap.get h.next w σ' h'.heap.get h'.next w' → Q .normal a' w') → wpOpsIn (FW r) n P ops Q (List.range' i os.length) a w
 | [], i, σ, f, h, a, w, hos, hi, hf, hr, hx, hK => by
  simp only [opsA, Option.some.injEq, Prod.mk.injEq] at hx
  obtain ⟨rfl, rfl⟩ := hx
  exact hK _ _ _ hf (Step.refl hr)
 | o :: os, i, σ, f, h, a, w, hos, hi, hf, hr, hx, hK => by
  simp only [List.length_cons] at hi
  have hlt : i < ops.size := by omega
  have ho : ops[i]? = some o := by
   rw [← Array.getElem?_toList, hos, List.getElem?_append_right (by simp; omega)]
   simp [Nat.min_eq_left (Nat.le_of_lt hlt)]
  have hos' : ops.toList = ops.toList.take (i + 1) ++ os := by
   have h1 : ops.toList.drop i = o :: os := by
    conv => lhs; rw [hos]
    simp [Nat.min_eq_left (Nat.le_of_lt hlt)]
   have h2 : ops.toList.drop (i + 1) = os := by rw [← List.drop_drop, h1]; rfl
   rw [← h2, List.take_append_drop]
  rw [List.length_cons, List.range'_succ, wpOpsIn_cons]
  unfold wpOpIn
  simp only [ho]
  simp only [opsA] at hx
  have hw := wantedA_eq (σ := σ) (ops := ops) (o := o) (g := f.get) (a := a) fun j want p d _ _ _ => hf.slot d
  rw [← hw]
  split at hx
  ·rename_i hwt
   split at hx
   ·rename_i f1 h1 hop
    simp only [hwt, if_true]
    refine opA_sound ht hrec hf hr hop fun a1 σ1 w1 hf1 hst1 => ?_
    exact opsA_sound ht hrec os (i + 1) σ1 f1 h1 a1 w1 hos' (by omega) hf1 hst1.hr hx fun a2 σ2 w2 hf2 hst2 => hK a2 σ2 w2 hf2 (hst1.trans hst2)
   ·cases hx
  ·rename_i hwt
   split at hx
   ·rename_i f1 hp
    simp only [hwt, Bool.false_eq_true, if_false]
    exact ⟨about_FW w, opsA_sound ht hrec os (i + 1) σ f1 h _ w hos' (by omega) (hf.put hp VR.undef) hr hx hK⟩
   ·cases hx
end
end Go.Proofs.YtflnpcgnenhogaaGreatDoor.ev
