/- The contract of a queue's put. -/
import Derived.Test.YtbgbomlmgkgkoaaGreatArcQI
namespace Go.Proofs.YtbgbomlmgkgkoaaGreat.arcI
open Go.RowKit Go.Proofs.YtbgbomlmgkgkoaaGreat.own

def C2 (c d : Nat) : Nat → Prop := fun e => e = c ∨ e = d

def QPost (x : Nat → Nat) (c cb o : Nat) (cs : Array Value) (t : TypeId) (w : World) (keys : List K) (N : Nat) (e : Ending) (w' : World) : Prop :=
  e = .returned (.tuple #[]) ∧ ∃ x' vk' vm', Fr x x' (C2 c (x cb)) w w' ∧ QP x' c w' vk' vm' keys N ∧ w'.heap[cb]? = some (.cells ((cs.setIfInBounds o vk').setIfInBounds (o + 1) vm') t (0, 0))

theorem one_key (k : K) : ∀ u ∈ [(Value.int .i64 k)], u.oneCell' = true := by intro u hu; simp at hu; subst hu; rfl
theorem wf_one : (Lit.int .i64 ((1 : Nat) : Int)).wf = true := by decide
theorem set_same (cs : Array Value) (i : Nat) (v : Value) (h : cs[i]? = some v) : cs.setIfInBounds i v = cs := by
  obtain ⟨hi, hv⟩ := Array.getElem?_eq_some_iff.1 h
  apply Array.ext
  · simp
  · intro j h1 h2
    rw [Array.getElem_setIfInBounds (by simpa using h2)]
    split
    · rename_i he; subst he; exact hv.symm
    · rfl

theorem own_ne_map {w : World} {base : Nat} {e : TypeId} {size n : Nat} {v : Value} {xs : List Value} {mb N : Nat} {f : K → Nat} (h : w.ownsRow base e size v n xs) (hm : MapIs w mb N f) : v.ownBlock ≠ some mb := by
  rcases h.2 with ⟨rfl, _⟩ | ⟨g, cap, cur, rfl, hb, hg, r⟩
  · simp [Value.ownBlock]
  · intro he
    simp [Value.ownBlock] at he
    subst he
    obtain ⟨D, ⟨es, clock, hb, _⟩, _⟩ := hm
    rw [hb] at hg
    cases hg
set_option maxHeartbeats 1600000 in
theorem put_map (x : Nat → Nat) (c cb o : Nat) (cs : Array Value) (t : TypeId) (w : World) (vk : Value) (mb : Nat) (keys : List K) (N : Nat) (k : K) (hok : ((Lit.int .i64 k).wf = true)) (hcb : w.heap[cb]? = some (.cells cs t (0, 0)))
    (hk : cs[o]? = some vk) (hm : cs[o + 1]? = some (.map (some mb))) (hq : QP x c w vk (.map (some mb)) keys N) (hne : x cb ≠ c) (hkk : k ∉ keys) (hN : N < 1099511627776) (hlen : keys.length < 1099511627776) :
    Calls Tryz.prog 143 #[.pointer (some ⟨cb, o, none⟩), (Value.int .i64 k)] w (QPost x c cb o cs t w (keys ++ [k]) (N + 1)) := by
  obtain ⟨i0, hi, hz0, hz1, hz2⟩ := info_parts Tryz.infoK
  obtain ⟨q1, q2, q3, q4, q5⟩ := hq
  rcases q5 with ⟨h, _⟩ | ⟨mb', h, hxm, hmap⟩
  · cases h
  · obtain rfl : mb = mb' := Option.some.inj (Value.map.inj h)
    clear h
    obtain ⟨w1, hrun, hmap1, hturn⟩ := hmap.store (k := k) hok (v := 1) wf_one (by simp only [maxLen]; omega)
    have hrun1 : (Instr.mapUpdate 193 (.map (some mb)) (Value.int .i64 k) (.int .i64 1)).run Tryz.prog w = .ok () w1 := hrun
    clear hrun
    have hg1 := hturn.grown
    have hmblt := hmap.lt
    have hcblt := lt_of_block hcb
    have hcm : cb ≠ mb := by rintro rfl; exact hne hxm
    have hcb1 : w1.heap[cb]? = some (.cells cs t (0, 0)) := (hg1.block cb hcblt (by simp; exact hcm)).trans hcb
    have hown1 : w1.ownsRow 0 3 1 vk keys.length (keys.map fun k => (Value.int .i64 k)) := q1.kept hg1 (.inr (own_ne_map q1 hmap))
    have HO1 := Lib.hid hown1
    have c1 : w.cell? ⟨cb, o + 1, none⟩ = some (.map (some mb)) := by rw [cell_of_row w cb _ _ _ _ hcb]; exact hm
    have c2 : w1.cell? ⟨cb, o, none⟩ = some vk := by rw [cell_of_row w1 cb _ _ _ _ hcb1]; exact hk
    have c3 : w1.frozen? ⟨cb, o, none⟩ = false := frozen_of_row w1 cb _ _ _ hcb1
    have heq := fun W : World => run_eql_map_nil (P := Tryz.prog) W 193 3 3 (some mb) Tryz.underlying193
    have hcb1l := lt_of_block hcb1
    have HM := Lib.hid hmap1
    have HG := Lib.hid hg1
    have HC := Lib.hid hcb1
    clear hmap hturn hmap1 hg1 hcb1
    go_enter Tryz.func143, Tryz.ntmps143
    go_wp2_with (at_builtin; refine wpList_append_at _ rfl _ _ 107 rfl 0 3 i0 _ 1 8 Tryz.underlying107 hi hz0 hz1 hz2 rfl (by decide) _ keys.length _ rfl (hown1.alloc _) ⟨w1.heap.size, 0, none⟩ 1 1 [(Value.int .i64 k)] rfl rfl ?c1 (one_key k) ?c3 ?c4 ?c5 ?c6 ?_)
    try case c1 => exact cell_one_new _ _ _
    try case c3 => simp only [maxLen]; omega
    try case c4 => omega
    try case c5 => omega
    try case c6 => omega
    intro v2 w2 hown2 hg2 hwh
    obtain ⟨a2, p2, hv2s⟩ := own_shape hown2
    subst hv2s
    obtain ⟨v2, hv2e⟩ : ∃ v2 : Value, v2 = .slice a2 (keys.length + 1) p2 := ⟨_, rfl⟩
    have HV2 := Lib.hid hv2e
    rw [← hv2e] at hown2 hwh
    clear hv2e
    have hkcb : vk.ownBlock ≠ some cb := fun h => hne (q2 cb h)
    have hcb2 : w2.heap[cb]? = some (.cells cs t (0, 0)) := (hg2.block cb (by simp; omega) (fun h => hkcb h.symm)).trans ((Below.heap_alloc _ _ _ hcb1l).trans HC.out)
    have d2 : w2.cell? ⟨cb, o, none⟩ = some vk := by rw [cell_of_row w2 cb _ _ _ _ hcb2]; exact hk
    have d3 : w2.frozen? ⟨cb, o, none⟩ = false := frozen_of_row w2 cb _ _ _ hcb2
    have HC2 := Lib.hid hcb2
    have HO := Lib.hid hown2
    have HG2 := Lib.hid hg2
    have HW := Lib.hid hwh
    have HK := Lib.hid hk
    have HMM := Lib.hid hm
    clear hown2 hg2 hwh hcb2 c1 c2 c3 hown1 hrun1 heq hk hm hi hz0 hz1 hz2 hcb
    go_wp2_with fail
    go_end0
    rw [← HV2.out]
    have kp : Keeps w (w2.setCell ⟨cb, o, none⟩ v2) (fun b => b = mb ∨ vk.ownBlock = some b ∨ b = cb) :=
      ((((Keeps.refl w _).grown HG.out (fun j hj => by injection hj with hj; exact .inl (.inl hj.symm))).alloc _).grown HG2.out (fun j hj => .inl (.inr (.inl hj)))).setCell (.inl (.inr (.inr rfl))) _
    have hv2 : ∀ b, v2.ownBlock = some b → vk.ownBlock = some b ∨ w.heap.size ≤ b := by
      intro b hb
      rcases HW.out with h | h
      · exact .inl (by rw [← h]; exact hb)
      · right
        rw [h] at hb
        injection hb with hb
        have := HG.out.size
        omega
    refine ⟨rfl, paint x w.heap.size c, v2, .map (some mb), kp.fr (c := c) (.inl rfl) ?_, ⟨?_, ?_, ?_, ?_, .inr ⟨mb, rfl, by rw [paint_old hmblt]; exact hxm, ?_⟩⟩, ?_⟩
    · intro b hb hS
      rcases hS with rfl | h | rfl
      · exact .inl hxm
      · exact .inl (q2 b h)
      · exact .inr rfl
    · refine ownsRow_setCell_other ?_ ?_ _
      · rw [List.length_append, List.map_append]; exact HO.out
      · intro h
        rcases hv2 cb h with h | h
        · exact hkcb h
        · omega
    · intro b hb
      rcases hv2 b hb with h | h
      · rw [paint_old (q1.lt b h).2]; exact q2 b h
      · exact paint_new h
    · rw [List.nodup_append]
      exact ⟨q3, by simp, fun a ha b hb => by simp at hb; subst hb; rintro rfl; exact hkk ha⟩
    · intro a ha
      rcases List.mem_append.1 ha with ha | ha
      · exact q4 a ha
      · simp at ha; subst ha; exact hok
    · rw [memF_snoc]
      refine HM.out.frame ?_
      rw [Below.heap_setCell _ _ _ _ (show mb ≠ cb from fun h => hcm h.symm)]
      refine (HG2.out.block mb (by have := HG.out.size; simp; omega) (fun h => own_ne_map HO1.out HM.out h.symm)).trans (Below.heap_alloc _ _ _ (by have := HG.out.size; omega))
    · rw [heap_setCell_same w2 cb o _ _ _ HC2.out]
      congr 2
      rw [set_same _ (o + 1) _ (by rw [Array.getElem?_setIfInBounds_ne (by omega)]; exact HMM.out)]

set_option maxHeartbeats 1600000 in
theorem put_nil (x : Nat → Nat) (c cb o : Nat) (cs : Array Value) (t : TypeId) (w : World) (vk : Value) (N : Nat) (k : K) (hok : ((Lit.int .i64 k).wf = true)) (hcb : w.heap[cb]? = some (.cells cs t (0, 0)))
    (hk : cs[o]? = some vk) (hm : cs[o + 1]? = some (.map none)) (hq : QP x c w vk (.map none) [] N) (hne : x cb ≠ c) :
    Calls Tryz.prog 143 #[.pointer (some ⟨cb, o, none⟩), (Value.int .i64 k)] w (QPost x c cb o cs t w [k] (N + 1)) := by
  obtain ⟨i0, hi, hz0, hz1, hz2⟩ := info_parts Tryz.infoK
  obtain ⟨q1, q2, _, _, _⟩ := hq
  have hcblt := lt_of_block hcb
  have hS : (w.setCell ⟨cb, o + 1, none⟩ (.map (some w.heap.size))).heap.size = w.heap.size := by simp
  have hmap : MapIs ((w.setCell ⟨cb, o + 1, none⟩ (.map (some w.heap.size))).alloc (.map #[] 0)) w.heap.size 0 (memF []) := by
    have h := MapIs.made (w.setCell ⟨cb, o + 1, none⟩ (.map (some w.heap.size)))
    rw [hS] at h
    rw [memF_nil]; exact h
  have hcb0 : ((w.setCell ⟨cb, o + 1, none⟩ (.map (some w.heap.size))).alloc (.map #[] 0)).heap[cb]? = some (.cells (cs.setIfInBounds (o + 1) (.map (some w.heap.size))) t (0, 0)) := by
    rw [Below.heap_alloc _ _ _ (by rw [hS]; exact hcblt)]
    exact heap_setCell_same w cb (o + 1) _ _ _ hcb
  have q10 : ((w.setCell ⟨cb, o + 1, none⟩ (.map (some w.heap.size))).alloc (.map #[] 0)).ownsRow 0 3 1 vk 0 ([].map fun k => (Value.int .i64 k)) :=
    (ownsRow_setCell_other q1 (fun h => hne (q2 cb h)) _).alloc _
  have hz0w : ((w.setCell ⟨cb, o + 1, none⟩ (.map (some w.heap.size))).alloc (.map #[] 0)).heap.size = w.heap.size + 1 := by simp
  obtain ⟨w1, hrun, hmap1, hturn⟩ := hmap.store (k := k) hok (v := 1) wf_one (by decide)
  have hrun1 : (Instr.mapUpdate 193 (.map (some w.heap.size)) (Value.int .i64 k) (.int .i64 1)).run Tryz.prog ((w.setCell ⟨cb, o + 1, none⟩ (.map (some w.heap.size))).alloc (.map #[] 0)) = .ok () w1 := hrun
  clear hrun
  have hg1 := hturn.grown
  have hs1 := hg1.size
  rw [hz0w] at hs1
  have hcb1 : w1.heap[cb]? = some (.cells (cs.setIfInBounds (o + 1) (.map (some w.heap.size))) t (0, 0)) := (hg1.block cb (by rw [hz0w]; omega) (by simp; omega)).trans hcb0
  have hown1 : w1.ownsRow 0 3 1 vk 0 ([].map fun k => (Value.int .i64 k)) := q10.kept hg1 (.inr (own_ne_map q10 hmap))
  have HO1 := Lib.hid hown1
  have c1 : w.cell? ⟨cb, o + 1, none⟩ = some (.map none) := by rw [cell_of_row w cb _ _ _ _ hcb]; exact hm
  have c1f : w.frozen? ⟨cb, o + 1, none⟩ = false := frozen_of_row w cb _ _ _ hcb
  have c0 : ((w.setCell ⟨cb, o + 1, none⟩ (.map (some w.heap.size))).alloc (.map #[] 0)).cell? ⟨cb, o + 1, none⟩ = some (.map (some w.heap.size)) := by
    rw [cell_of_row _ cb _ _ _ _ hcb0, Array.getElem?_setIfInBounds_self_of_lt (Array.getElem?_eq_some_iff.1 hm).1]
  have c2 : w1.cell? ⟨cb, o, none⟩ = some vk := by rw [cell_of_row w1 cb _ _ _ _ hcb1, Array.getElem?_setIfInBounds_ne (by omega)]; exact hk
  have c3 : w1.frozen? ⟨cb, o, none⟩ = false := frozen_of_row w1 cb _ _ _ hcb1
  have heq := fun W : World => run_eql_map_nil (P := Tryz.prog) W 193 3 3 none Tryz.underlying193
  have hmm := @run_makeMap Tryz.prog
  have hcb1l := lt_of_block hcb1
  have HM := Lib.hid hmap1
  have HG := Lib.hid hg1
  have HC := Lib.hid hcb1
  have HZ := Lib.hid hz0w
  have HK := Lib.hid hk
  have HMM := Lib.hid hm
  have HCB := Lib.hid hcb
  clear hmap hturn hmap1 hg1 hcb1 hS hcb0 hz0w q10 hk hm hcb
  go_enter Tryz.func143, Tryz.ntmps143
  go_wp2_with (at_builtin; refine wpList_append_at _ rfl _ _ 107 rfl 0 3 i0 _ 1 8 Tryz.underlying107 hi hz0 hz1 hz2 rfl (by decide) _ 0 _ rfl (hown1.alloc _) ⟨w1.heap.size, 0, none⟩ 1 1 [(Value.int .i64 k)] rfl rfl ?c1 (one_key k) ?c3 ?c4 ?c5 ?c6 ?_)
  try case c1 => exact cell_one_new _ _ _
  try case c3 => simp only [maxLen]; omega
  try case c4 => omega
  try case c5 => omega
  try case c6 => omega
  intro v2 w2 hown2 hg2 hwh
  obtain ⟨a2, p2, hv2s⟩ := own_shape hown2
  subst hv2s
  obtain ⟨v2, hv2e⟩ : ∃ v2 : Value, v2 = .slice a2 1 p2 := ⟨_, rfl⟩
  have HV2 := Lib.hid hv2e
  rw [← hv2e] at hown2 hwh
  clear hv2e
  have hkcb : vk.ownBlock ≠ some cb := fun h => hne (q2 cb h)
  have hcb2 : w2.heap[cb]? = some (.cells (cs.setIfInBounds (o + 1) (.map (some w.heap.size))) t (0, 0)) := (hg2.block cb (by simp; omega) (fun h => hkcb h.symm)).trans ((Below.heap_alloc _ _ _ hcb1l).trans HC.out)
  have d2 : w2.cell? ⟨cb, o, none⟩ = some vk := by rw [cell_of_row w2 cb _ _ _ _ hcb2, Array.getElem?_setIfInBounds_ne (by omega)]; exact HK.out
  have d3 : w2.frozen? ⟨cb, o, none⟩ = false := frozen_of_row w2 cb _ _ _ hcb2
  have HC2 := Lib.hid hcb2
  have HO := Lib.hid hown2
  have HG2 := Lib.hid hg2
  have HW := Lib.hid hwh
  clear hown2 hg2 hwh hcb2 c0 c1 c1f c2 c3 hown1 hrun1 heq hmm hi hz0 hz1 hz2
  go_wp2_with fail
  go_end0
  rw [← HV2.out]
  have kp : Keeps w (w2.setCell ⟨cb, o, none⟩ v2) (fun b => vk.ownBlock = some b ∨ b = cb) :=
    ((((((Keeps.refl w _).setCell (p := ⟨cb, o + 1, none⟩) (.inl (.inr rfl)) _).alloc _).grown HG.out (fun j hj => by injection hj with hj; exact .inr (by omega))).alloc _).grown HG2.out (fun j hj => .inl (.inl hj))).setCell (.inl (.inr rfl)) _
  have hv2 : ∀ b, v2.ownBlock = some b → vk.ownBlock = some b ∨ w.heap.size ≤ b := by
    intro b hb
    rcases HW.out with h | h
    · exact .inl (by rw [← h]; exact hb)
    · right
      rw [h] at hb
      injection hb with hb
      omega
  refine ⟨rfl, paint x w.heap.size c, v2, .map (some w.heap.size), kp.fr (c := c) (.inl rfl) ?_, ⟨?_, ?_, by simp, by intro a ha; simp at ha; subst ha; exact hok, .inr ⟨w.heap.size, rfl, paint_new (Nat.le_refl _), ?_⟩⟩, ?_⟩
  · intro b hb hS
    rcases hS with h | rfl
    · exact .inl (q2 b h)
    · exact .inr rfl
  · refine ownsRow_setCell_other HO.out ?_ _
    intro h
    rcases hv2 cb h with h | h
    · exact hkcb h
    · omega
  · intro b hb
    rcases hv2 b hb with h | h
    · rw [paint_old (q1.lt b h).2]; exact q2 b h
    · exact paint_new h
  · have e : memF [k] = upd (memF []) k 1 := memF_snoc [] k
    rw [e]
    refine (HM.out.mono (by omega)).frame ?_
    rw [Below.heap_setCell _ _ _ _ (show w.heap.size ≠ cb by omega)]
    exact (HG2.out.block w.heap.size (by simp; omega) (fun h => own_ne_map HO1.out HM.out h.symm)).trans (Below.heap_alloc _ _ _ (by omega))
  · rw [heap_setCell_same w2 cb o _ _ _ HC2.out]
    congr 2
    rw [Array.setIfInBounds_comm _ _ (by omega)]

/-- put, whatever the queue holds -/
theorem put_any (x : Nat → Nat) (c cb o : Nat) (cs : Array Value) (t : TypeId) (w : World) (vk vm : Value) (keys : List K) (N : Nat) (k : K) (hok : ((Lit.int .i64 k).wf = true)) (hcb : w.heap[cb]? = some (.cells cs t (0, 0)))
    (hk : cs[o]? = some vk) (hm : cs[o + 1]? = some vm) (hq : QP x c w vk vm keys N) (hne : x cb ≠ c) (hkk : k ∉ keys) (hN : N < 1099511627776) (hlen : keys.length < 1099511627776) :
    Calls Tryz.prog 143 #[.pointer (some ⟨cb, o, none⟩), (Value.int .i64 k)] w (QPost x c cb o cs t w (keys ++ [k]) (N + 1)) := by
  have hq' := hq
  obtain ⟨_, _, _, _, h5⟩ := hq
  rcases h5 with ⟨rfl, rfl⟩ | ⟨mb, rfl, _⟩
  · exact put_nil x c cb o cs t w vk N k hok hcb hk hm hq' hne
  · exact put_map x c cb o cs t w vk mb keys N k hok hcb hk hm hq' hne hkk hN hlen

end Go.Proofs.YtbgbomlmgkgkoaaGreat.arcI
