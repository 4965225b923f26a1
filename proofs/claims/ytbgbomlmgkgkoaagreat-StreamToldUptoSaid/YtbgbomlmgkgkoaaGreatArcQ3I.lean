/- The contracts of a queue's take and list. -/
import Derived.Test.YtbgbomlmgkgkoaaGreatArcLibI
namespace Go.Proofs.YtbgbomlmgkgkoaaGreat.arcI
open Go.RowKit Go.Proofs.YtbgbomlmgkgkoaaGreat.own

theorem QP.kvs {x : Nat → Nat} {c : Nat} {w : World} {vk vm : Value} {keys : List K} {N : Nat} (h : QP x c w vk vm keys N) : w.ownsRow 0 3 1 vk keys.length (kvs keys) := h.1

theorem wpList_delete_map {w : World} {ops : Array Oper} {rest : List Oper} {o : Oper} {a : Act} {Q : Exit → Act → World → Prop} (hg : o.guard = none) (m y : Operand)
    (hop : o.op = Op.call { callee := Callee.builtin Builtin.delete, args := #[m, y], argTypes := #[193, 3] }) (b N : Nat) (f : K → Nat) (k : K) (hok : ((Lit.int .i64 k).wf = true)) (hm : a.eval m = .map (some b)) (hy : a.eval y = (Value.int .i64 k)) (h : MapIs w b N f)
    (hK : ∀ w', MapIs w' b N (upd f k 0) → w.mapTurned w' b → wpList Tryz.prog ops Q rest (a.put o.dst (.tuple #[])) w') : wpList Tryz.prog ops Q (o :: rest) a w := by
  refine wpList_plain hg fun K' hK' => ?_
  obtain ⟨w', hrun, r1, r2⟩ := h.drop (k := k) hok o.type
  unfold Oper.wp
  simp [execOp, hop, resolve, invoke, builtin, hm, hy, hrun, Result.andThen]
  exact hK' _ _ (hK w' r1 r2)

theorem index_not (w : World) (vk : Value) (keys : List K) (k : K) (h : w.ownsRow 0 3 1 vk keys.length (kvs keys)) (hk : k ∉ keys) :
    Calls Tryz.prog 124 #[vk, (Value.int .i64 k)] w fun e w' => e = .returned (.int .i64 (-1)) ∧ w = w' :=
  (index_q w vk keys k h).mono fun e w' hh => ⟨by rw [hh.1, idx, if_neg hk], hh.2⟩
theorem index_at (w : World) (vk : Value) (keys : List K) (k : K) (h : w.ownsRow 0 3 1 vk keys.length (kvs keys)) (hk : k ∈ keys) :
    Calls Tryz.prog 124 #[vk, (Value.int .i64 k)] w fun e w' => e = .returned (.int .i64 (keys.idxOf k : Nat)) ∧ w = w' :=
  (index_q w vk keys k h).mono fun e w' hh => ⟨by rw [hh.1, idx, if_pos hk], hh.2⟩

theorem take_not (x : Nat → Nat) (c cb o : Nat) (cs : Array Value) (t : TypeId) (w : World) (vk vm : Value) (keys : List K) (N : Nat) (k : K) (hcb : w.heap[cb]? = some (.cells cs t (0, 0)))
    (hk : cs[o]? = some vk) (hq : QP x c w vk vm keys N) (hkk : k ∉ keys) :
    Calls Tryz.prog 102 #[.pointer (some ⟨cb, o, none⟩), (Value.int .i64 k)] w fun e w' => e = .returned (.tuple #[]) ∧ w = w' := by
  have c1 : w.cell? ⟨cb, o, none⟩ = some vk := by rw [cell_of_row w cb _ _ _ _ hcb]; exact hk
  have HQ := Lib.hid hq
  clear hk hcb hq
  go_enter Tryz.func102, Tryz.ntmps102
  go_wp2_with fail
  refine (index_not _ _ keys k HQ.out.kvs hkk).mono ?_
  rintro e w' ⟨rfl, rfl⟩
  go_wp2_with fail
  go_end0
  exact ⟨rfl, rfl⟩

set_option maxHeartbeats 1600000 in
theorem take_in (x : Nat → Nat) (c cb o : Nat) (cs : Array Value) (t : TypeId) (w : World) (vk vm : Value) (keys : List K) (N : Nat) (k : K) (hok : ((Lit.int .i64 k).wf = true)) (hcb : w.heap[cb]? = some (.cells cs t (0, 0)))
    (hk : cs[o]? = some vk) (hm : cs[o + 1]? = some vm) (hq : QP x c w vk vm keys N) (hne : x cb ≠ c) (hkk : k ∈ keys) (hlen : keys.length < 1099511627776) :
    Calls Tryz.prog 102 #[.pointer (some ⟨cb, o, none⟩), (Value.int .i64 k)] w (QPost x c cb o cs t w (keys.erase k) N) := by
  have HQ := Lib.hid hq
  obtain ⟨q1, q2, q3, q4, q5⟩ := hq
  rcases q5 with ⟨_, h0⟩ | ⟨mb, rfl, hxm, hmap⟩
  · rw [h0] at hkk; cases hkk
  have hcblt := lt_of_block hcb
  have hcm : cb ≠ mb := by rintro rfl; exact hne hxm
  have hkcb : vk.ownBlock ≠ some cb := fun h => hne (q2 cb h)
  have hidx : keys.idxOf k < keys.length := List.idxOf_lt_length_of_mem hkk
  have c1 : w.cell? ⟨cb, o, none⟩ = some vk := by rw [cell_of_row w cb _ _ _ _ hcb]; exact hk
  have HK := Lib.hid hk
  have HMM := Lib.hid hm
  have HCB := Lib.hid hcb
  have HMP := Lib.hid hmap
  have HQ1 := Lib.hid q1
  have hmlt := hmap.lt
  have hib : (0 : Int) ≤ (keys.idxOf k : Nat) := by omega
  have hib2 : ((keys.idxOf k : Nat) : Int) ≤ 1099511627776 := by omega
  clear hk hm hcb q1 hmap
  go_enter Tryz.func102, Tryz.ntmps102
  go_wp2_with fail
  refine (index_at _ _ keys k HQ.out.kvs hkk).mono ?_
  rintro e w' ⟨rfl, rfl⟩
  go_wp2_with fail
  refine (delete_q w vk keys (keys.idxOf k) hidx _ rfl HQ.out.kvs).mono ?_
  rintro e w1 ⟨v2, rfl, hown2, hwh, hg1⟩
  obtain ⟨a2, p2, hv2s⟩ := own_shape hown2
  subst hv2s
  have hcb1 : w1.heap[cb]? = some (.cells cs t (0, 0)) := (hg1.block cb hcblt (fun h => hkcb h.symm)).trans HCB.out
  have hmap1 : MapIs w1 mb N (memF keys) := HMP.out.frame (hg1.block mb hmlt (fun h => own_ne_map HQ1.out HMP.out h.symm))
  have d2 : w1.cell? ⟨cb, o, none⟩ = some vk := by rw [cell_of_row w1 cb _ _ _ _ hcb1]; exact HK.out
  have d3 : w1.frozen? ⟨cb, o, none⟩ = false := frozen_of_row w1 cb _ _ _ hcb1
  have hcb2 : (w1.setCell ⟨cb, o, none⟩ (.slice a2 (keys.eraseIdx (keys.idxOf k)).length p2)).heap[cb]? = some (.cells (cs.setIfInBounds o (.slice a2 (keys.eraseIdx (keys.idxOf k)).length p2)) t (0, 0)) := heap_setCell_same w1 cb o _ _ _ hcb1
  have d4 : (w1.setCell ⟨cb, o, none⟩ (.slice a2 (keys.eraseIdx (keys.idxOf k)).length p2)).cell? ⟨cb, o + 1, none⟩ = some (.map (some mb)) := by
    rw [cell_of_row _ cb _ _ _ _ hcb2, Array.getElem?_setIfInBounds_ne (by omega)]; exact HMM.out
  have hmap2 : MapIs (w1.setCell ⟨cb, o, none⟩ (.slice a2 (keys.eraseIdx (keys.idxOf k)).length p2)) mb N (memF keys) := hmap1.frame (Below.heap_setCell _ _ _ _ (fun h => hcm h.symm))
  have herase : keys.erase k = keys.eraseIdx (keys.idxOf k) := List.erase_eq_eraseIdx_of_idxOf (by rfl)
  have HO := Lib.hid hown2
  have HG1 := Lib.hid hg1
  have HW := Lib.hid hwh
  have HC2 := Lib.hid hcb2
  have HER := Lib.hid herase
  clear hown2 hg1 hwh hcb1 hmap1 hcb2 herase c1
  go_wp2_with (at_delete; refine wpList_delete_map rfl _ _ rfl mb N (memF keys) k hok rfl rfl hmap2 ?_)
  intro w3 hm3 ht3
  have HG3 := Lib.hid ht3.grown
  have HM3 := Lib.hid hm3
  clear hm3 ht3 d2 d3 d4 hmap2
  go_wp2_with fail
  go_end0
  have kp : Keeps w w3 (fun b => vk.ownBlock = some b ∨ b = cb ∨ b = mb) :=
    (((Keeps.refl w _).grown HG1.out (fun j hj => .inl (.inl hj))).setCell (p := ⟨cb, o, none⟩) (.inl (.inr (.inl rfl))) _).grown HG3.out (fun j hj => by injection hj with hj; exact .inl (.inr (.inr hj.symm)))
  have hz1 : w.heap.size ≤ w1.heap.size := HG1.out.size
  have hcb3 : w3.heap[cb]? = some (.cells (cs.setIfInBounds o (.slice a2 (keys.eraseIdx (keys.idxOf k)).length p2)) t (0, 0)) := (HG3.out.block cb (by simp; omega) (by simp; exact hcm)).trans HC2.out
  refine ⟨rfl, paint x w.heap.size c, .slice a2 (keys.eraseIdx (keys.idxOf k)).length p2, .map (some mb), kp.fr (c := c) (.inl rfl) ?_, ⟨?_, ?_, ?_, ?_, .inr ⟨mb, rfl, by rw [paint_old hmlt]; exact hxm, ?_⟩⟩, ?_⟩
  · intro b hb hS
    rcases hS with h | rfl | rfl
    · exact .inl (q2 b h)
    · exact .inr rfl
    · exact .inl hxm
  · rw [HER.out]
    refine World.ownsRow.kept (ownsRow_setCell_other HO.out ?_ _) HG3.out (.inr ?_)
    · intro h; rw [HW.out] at h; exact hkcb h
    · intro h; rw [HW.out] at h; exact own_ne_map HQ1.out HMP.out h
  · intro b hb
    rw [HW.out] at hb
    rw [paint_old (HQ1.out.lt b hb).2]
    exact q2 b hb
  · exact q3.erase k
  · intro a ha; exact q4 a (List.mem_of_mem_erase ha)
  · rw [memF_erase q3]; exact HM3.out
  · rw [hcb3]
    congr 2
    rw [set_same _ (o + 1) _ (by rw [Array.getElem?_setIfInBounds_ne (by omega)]; exact HMM.out)]

/-- take, whether the key is there or not -/
theorem take_any (x : Nat → Nat) (c cb o : Nat) (cs : Array Value) (t : TypeId) (w : World) (vk vm : Value) (keys : List K) (N : Nat) (k : K) (hok : ((Lit.int .i64 k).wf = true)) (hcb : w.heap[cb]? = some (.cells cs t (0, 0)))
    (hk : cs[o]? = some vk) (hm : cs[o + 1]? = some vm) (hq : QP x c w vk vm keys N) (hne : x cb ≠ c) (hlen : keys.length < 1099511627776) :
    Calls Tryz.prog 102 #[.pointer (some ⟨cb, o, none⟩), (Value.int .i64 k)] w (QPost x c cb o cs t w (keys.erase k) N) := by
  by_cases hkk : k ∈ keys
  · exact take_in x c cb o cs t w vk vm keys N k hok hcb hk hm hq hne hkk hlen
  · refine (take_not x c cb o cs t w vk vm keys N k hcb hk hq hkk).mono fun e w' hh => ?_
    obtain ⟨rfl, rfl⟩ := hh
    refine ⟨rfl, x, vk, vm, Fr.refl _ _ _, by rw [List.erase_of_not_mem hkk]; exact hq, ?_⟩
    rw [hcb, set_same cs o vk hk, set_same cs (o + 1) vm hm]

end Go.Proofs.YtbgbomlmgkgkoaaGreat.arcI
