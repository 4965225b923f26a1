/- pack: the closure in the program's ReadHead: bits are taken, a fault is marked. -/
import Derived.Test.YthaicpbdlhkkkaaGreatDoorPkM
import Derived.Test.YthaicpbdlhkkkaaGreatDoorEfS
namespace Go.Proofs.YthaicpbdlhkkkaaGreatDoor.pk
open Go.RowKit Go.Proofs.YthaicpbdlhkkkaaGreatDoor.own Go.Proofs.YthaicpbdlhkkkaaGreatDoor.bit Go.Proofs.YthaicpbdlhkkkaaGreatDoor.ef

/-- a reader that was made after w0, a mark, and rows beside them that stand -/
def RT (w0 : World) (rb bb : Nat) (r : ByteArray) (a : Nat) (bad : Bool) (ks : List (Nat × Obj)) (W : World) : Prop :=
  ∃ x, Fr (fun _ => 100) x (fun c => c < 50) w0 W ∧ RdC x 0 W rb r a ∧ (x bb = 48 ∧ W.heap[bb]? = some (.cells #[.bool bad] 4 (0, 0))) ∧ ∀ p ∈ ks, x p.1 = 49 ∧ W.heap[p.1]? = some p.2
theorem RT.below {w0 W : World} {rb bb a : Nat} {r : ByteArray} {bad : Bool} {ks : List (Nat × Obj)} (h : RT w0 rb bb r a bad ks W) : Below w0.heap.size w0 W := by
  obtain ⟨x, hf, _⟩ := h
  exact ⟨hf.os, hf.tape, hf.output, hf.size, fun b hb => hf.old b hb (by show ¬ (100 : Nat) < 50; decide)⟩
theorem RT.row {w0 W : World} {rb bb a : Nat} {r : ByteArray} {bad : Bool} {ks : List (Nat × Obj)} (h : RT w0 rb bb r a bad ks W) {b : Nat} {o : Obj} (hm : (b, o) ∈ ks) : W.heap[b]? = some o := by
  obtain ⟨x, _, _, _, hk⟩ := h
  exact (hk _ hm).2
theorem RT.bad {w0 W : World} {rb bb a : Nat} {r : ByteArray} {bad : Bool} {ks : List (Nat × Obj)} (h : RT w0 rb bb r a bad ks W) : W.heap[bb]? = some (.cells #[.bool bad] 4 (0, 0)) := by
  obtain ⟨x, _, _, hb, _⟩ := h
  exact hb.2
/-- a row more -/
theorem RT.keep {w0 W : World} {rb bb a : Nat} {r : ByteArray} {bad : Bool} {ks : List (Nat × Obj)} (h : RT w0 rb bb r a bad ks W) (row : Array Value) (T : TypeId) : RT w0 rb bb r a bad ((W.heap.size, .cells row T (0, 0)) :: ks) (W.alloc (.cells row T)) := by
  obtain ⟨x, hf, ⟨hr1, hr2, hr3⟩, ⟨hb1, hb2⟩, hk⟩ := h
  have k : Below W.heap.size W (W.alloc (.cells row T)) := (Below.refl _ _).alloc (Nat.le_refl _) _
  have f2 : Fr x (paint x W.heap.size 49) (fun c => c = 49) W (W.alloc (.cells row T)) := Fr.of_below k rfl
  refine ⟨_, hf.trans (f2.mono (fun c hc => by subst hc; decide)), ⟨(k.block _ (lt_of_block hr1)).trans hr1, (paint_old (lt_of_block hr1)).trans hr2, hr3⟩, ⟨(paint_old (lt_of_block hb2)).trans hb1, (k.block _ (lt_of_block hb2)).trans hb2⟩, fun p hp => ?_⟩
  rcases List.mem_cons.1 hp with rfl | hp
  · exact ⟨paint_new (Nat.le_refl _), heap_alloc_new W _⟩
  · obtain ⟨h1, h2⟩ := hk p hp
    exact ⟨(paint_old (lt_of_block h2)).trans h1, (k.block _ (lt_of_block h2)).trans h2⟩
/-- a cell of the newest row is written -/
theorem RT.write {w0 W : World} {rb bb a : Nat} {r : ByteArray} {bad : Bool} {hb : Nat} {row : Array Value} {T : TypeId} {ks : List (Nat × Obj)} (h : RT w0 rb bb r a bad ((hb, .cells row T (0, 0)) :: ks) W) (hne : ∀ p ∈ ks, p.1 ≠ hb) (j : Nat) (v : Value) :
    RT w0 rb bb r a bad ((hb, .cells (row.setIfInBounds j v) T (0, 0)) :: ks) (W.setCell ⟨hb, j, none⟩ v) := by
  obtain ⟨x, hf, ⟨hr1, hr2, hr3⟩, ⟨hb1, hb2⟩, hk⟩ := h
  obtain ⟨h1, h2⟩ := hk _ (List.mem_cons_self ..)
  have ne : ∀ b, b ≠ hb → (W.setCell ⟨hb, j, none⟩ v).heap[b]? = W.heap[b]? := fun b hb' => Below.heap_setCell W ⟨hb, j, none⟩ v b hb'
  have f2 : Fr x x (fun c => c = 49) W (W.setCell ⟨hb, j, none⟩ v) := Fr.same rfl rfl rfl (by simp) (fun d _ hd => ne d (fun e => hd (by rw [e]; exact h1)))
  refine ⟨x, hf.trans (f2.mono (fun c hc => by subst hc; decide)), ⟨(ne _ (fun e => by rw [e] at hr2; rw [hr2] at h1; cases h1)).trans hr1, hr2, hr3⟩, ⟨hb1, (ne _ (fun e => by rw [e] at hb1; rw [hb1] at h1; cases h1)).trans hb2⟩, fun p hp => ?_⟩
  rcases List.mem_cons.1 hp with rfl | hp
  · exact ⟨h1, heap_setCell_same W hb j _ _ v h2⟩
  · obtain ⟨h3, h4⟩ := hk p (List.mem_cons_of_mem _ hp)
    exact ⟨h3, (ne _ (hne p hp)).trans h4⟩
/-- the mark is written -/
theorem RT.marked {w0 W : World} {rb bb a : Nat} {r : ByteArray} {bad : Bool} {ks : List (Nat × Obj)} (h : RT w0 rb bb r a bad ks W) (bad' : Bool) :
    RT w0 rb bb r a bad' ks (W.setCell ⟨bb, 0, none⟩ (.bool bad')) := by
  obtain ⟨x, hf, ⟨hr1, hr2, hr3⟩, ⟨hb1, hb2⟩, hk⟩ := h
  have ne : ∀ b, b ≠ bb → (W.setCell ⟨bb, 0, none⟩ (.bool bad')).heap[b]? = W.heap[b]? := fun b hb' => Below.heap_setCell W ⟨bb, 0, none⟩ _ b hb'
  have f2 : Fr x x (fun c => c = 48) W (W.setCell ⟨bb, 0, none⟩ (.bool bad')) := Fr.same rfl rfl rfl (by simp) (fun d _ hd => ne d (fun e => hd (by rw [e]; exact hb1)))
  refine ⟨x, hf.trans (f2.mono (fun c hc => by subst hc; decide)), ⟨(ne _ (fun e => by rw [e] at hr2; rw [hr2] at hb1; cases hb1)).trans hr1, hr2, hr3⟩, ⟨hb1, ?_⟩, fun p hp => ?_⟩
  · rw [heap_setCell_same W bb 0 _ _ _ hb2]; rfl
  · obtain ⟨h3, h4⟩ := hk p hp
    exact ⟨h3, (ne _ (fun e => by rw [e] at h3; rw [h3] at hb1; cases hb1)).trans h4⟩
/-- bits are taken -/
theorem RT.take {w0 W : World} {rb bb a : Nat} {r : ByteArray} {bad : Bool} {ks : List (Nat × Obj)} (h : RT w0 rb bb r a bad ks W) (n : Nat) (hn : n ≤ 64) (ha : a + n ≤ 8 * r.size) :
    Calls Tryz.prog 24 #[.pointer (some ⟨rb, 0, none⟩), .int .i64 (n : Int)] W fun e w' =>
      e = .returned (.tuple #[.int .u64 ((num (((unpack (nats r)).drop a).take n) : Nat) : Int), .int .i64 0]) ∧ RT w0 rb bb r (a + n) bad ks w' := by
  obtain ⟨x, hf, hr, ⟨hb1, hb2⟩, hk⟩ := h
  refine (Take_any x 0 W rb r a n hn ha hr).mono ?_
  rintro e w' ⟨rfl, x', f2, h2⟩
  refine ⟨rfl, x', hf.trans (f2.mono (fun c hc => by show c < 50; omega)), h2, ⟨(f2.col _ (lt_of_block hb2)).trans hb1, (f2.old _ (lt_of_block hb2) (by show ¬ x bb = 0; rw [hb1]; decide)).trans hb2⟩, fun p hp => ?_⟩
  obtain ⟨h1, h3⟩ := hk p hp
  exact ⟨(f2.col _ (lt_of_block h3)).trans h1, (f2.old _ (lt_of_block h3) (by show ¬ x p.1 = 0; rw [h1]; decide)).trans h3⟩

theorem fld_num (r : ByteArray) (p k : Nat) : num (((unpack (nats r)).drop (8 * p)).take (8 * k)) = fld r p k := by
  unfold fld
  rw [val_num _ (fun b hb => nats_lt r b (List.mem_of_mem_drop (List.mem_of_mem_take hb))), unpack_take, unpack_drop]
theorem and28 (v : Nat) (hv : v < 18446744073709551616) : bits .and .u64 (v : Int) 268435455 = ((v % 268435456 : Nat) : Int) := by
  rw [show (268435455 : Int) = ((2 ^ 28 - 1 : Nat) : Int) from rfl, (bits_nat .u64 64 (by decide) wraps_u64_64 v _ hv (by omega)).1, Nat.and_two_pow_sub_one_eq_mod]

set_option maxRecDepth 100000 in
set_option maxHeartbeats 1600000 in
theorem take_any (w0 : World) (pb rb bb : Nat) (r : ByteArray) (p k : Nat) (bad : Bool) (ks : List (Nat × Obj)) (hk : k ≤ 8) (hpk : p + k ≤ r.size) (W : World)
    (h : RT w0 rb bb r (8 * p) bad ks W) (hp : (pb, .cells #[.pointer (some ⟨rb, 0, none⟩)] 56 (0, 0)) ∈ ks) :
    Calls Tryz.prog 23 #[.int .i64 ((8 * k : Nat) : Int), .pointer (some ⟨pb, 0, none⟩), .pointer (some ⟨bb, 0, none⟩)] W fun e w' =>
      e = .returned (.int .i64 ((fld r p k % 268435456 : Nat) : Int)) ∧ RT w0 rb bb r (8 * (p + k)) (bad || decide (134217728 < fld r p k)) ks w' := by
  have TK := Lib.hid (h.take (8 * k) (by omega) (by omega))
  have c1 : W.cell? ⟨pb, 0, none⟩ = some (.pointer (some ⟨rb, 0, none⟩)) := by rw [cell_of_row _ _ _ _ _ _ (h.row hp)]; rfl
  rw [fld_num] at TK
  obtain ⟨v, hv⟩ : ∃ v, fld r p k = v := ⟨_, rfl⟩
  have hv64 : v < 18446744073709551616 := by
    have := fld_lt r p k
    have h2 : 256 ^ k ≤ 256 ^ 8 := Nat.pow_le_pow_right (by decide) hk
    rw [hv] at this
    omega
  rw [hv] at TK ⊢
  have hA := and28 v hv64
  have hm : ((v % 268435456 : Nat) : Int) < 268435456 := by omega
  obtain ⟨m, hm2⟩ : ∃ m, v % 268435456 = m := ⟨_, rfl⟩
  rw [hm2] at hA hm ⊢
  have wm : IntKind.i64.wrap (m : Int) = (m : Int) := IntWalk.i64_in _ (by omega)
  obtain ⟨n, hn⟩ : ∃ n, 8 * k = n := ⟨_, rfl⟩
  have h8 : 8 * (p + k) = 8 * p + n := by omega
  rw [hn] at TK ⊢
  rw [h8]
  clear hv hpk hk hm2 hn h8 h
  go_enter Tryz.func23, Tryz.ntmps23
  go_wp2_with fail
  refine TK.out.mono ?_
  rintro e w2 ⟨rfl, h2⟩
  have H2 := Lib.hid h2
  have c2 : w2.cell? ⟨bb, 0, none⟩ = some (.bool bad) := by rw [cell_of_row _ _ _ _ _ _ h2.bad]; rfl
  have f2 : w2.frozen? ⟨bb, 0, none⟩ = false := frozen_of_row w2 bb 0 _ _ h2.bad
  clear h2 TK
  have E1 : Hid (decide ((134217728 : Int) < (v : Int)) = decide (134217728 < v)) := Lib.hid (decide_eq_decide.2 (by omega))
  cases bad
  · go_wp2_with fail
    go_ret
    exact ⟨rfl, by rw [E1.out]; exact H2.out.marked _⟩
  · go_wp2_with fail
    go_ret
    exact ⟨rfl, H2.out.marked true⟩

theorem nats_ext {s t : ByteArray} (h : nats s = nats t) : s = t := by
  apply ByteArray.ext
  apply Array.ext'
  unfold nats at h
  have inj : Function.Injective UInt8.toNat := fun a b e => UInt8.toNat_inj.1 e
  exact (List.map_inj_right (fun a b e => inj e)).1 h
/-- the rest behind the mark -/
def restT (s : ByteArray) : ByteArray := ⟨(s.data.toList.drop 4).toArray⟩
theorem restT_size (s : ByteArray) : (restT s).size = s.size - 4 := by
  rw [← nats_length, ← nats_length s]
  unfold nats restT
  simp
theorem fld_rest (s : ByteArray) (p k : Nat) : fld (restT s) p k = fld s (p + 4) k := by
  unfold fld
  have h : nats (restT s) = (nats s).drop 4 := by
    unfold nats restT
    simp [List.map_drop]
  rw [h, List.drop_drop, Nat.add_comm 4 p]
theorem mark_has {s : ByteArray} : Lib.hasPrefix s.data.toList [119, 116, 108, 49] = true ↔ s.extract 0 4 = markT := by
  have e : (s.extract 0 4).data.toList = s.data.toList.take 4 := by
    rw [Lib.extract_data]; simp
  unfold Lib.hasPrefix
  rw [List.isPrefixOf_iff_prefix, List.prefix_iff_eq_take]
  constructor
  · intro h
    apply ByteArray.ext
    apply Array.ext'
    rw [e]
    exact h.symm
  · intro h
    rw [h] at e
    exact e
end Go.Proofs.YthaicpbdlhkkkaaGreatDoor.pk
