/- list: the taker: take. list: the taker: take, walked. list: what ListFew rests on, plainly. list: what the law of few holds on its way: a writer, a reader, rows beside. list: the taker with a row of its own; appends of lists that are only read. -/
import Derived.Test.YtflnpcgnenhogaaDoorLsW
import Derived.Test.YtflnpcgnenhogaaDoorLsC
namespace Go.Proofs.YtflnpcgnenhogaaDoor.ls
open Go.RowKit Go.Proofs.YtflnpcgnenhogaaDoor.own Go.Proofs.YtflnpcgnenhogaaDoor.bit

theorem RE.mark {x : Nat → Nat} {d t u : Nat} (hdu : d ≠ u) {w W : World} {rb a qb : Nat} {s : ByteArray} {ks : List (Nat × Obj)} {v0 v1 : Value} {T : TypeId} (h : RE x d t u w rb s a ((qb, .cells #[v0, v1] T (0, 0)) :: ks) W) (hne : ∀ p ∈ ks, p.1 ≠ qb) (v : Value) :
    RE x d t u w rb s a ((qb, .cells #[v0, v] T (0, 0)) :: ks) (W.setCell ⟨qb, 1, none⟩ v) := by
  obtain ⟨x', hf, ⟨hr1, hr2, hr3⟩, hk⟩ := h
  obtain ⟨hx, hb⟩ := hk _ (List.mem_cons_self ..)
  have hb' : W.heap[qb]? = some (.cells #[v0, v1] T (0, 0)) := hb
  have hx' : x' qb = u := hx
  have ne : ∀ c, c ≠ qb → (W.setCell ⟨qb, 1, none⟩ v).heap[c]? = W.heap[c]? := fun c hc => Below.heap_setCell W ⟨qb, 1, none⟩ _ c hc
  have f2 : Fr x' x' (fun c => c = u) W (W.setCell ⟨qb, 1, none⟩ v) := Fr.same rfl rfl rfl (by simp) (fun c _ hd => ne c (fun e => hd (by rw [e]; exact hx')))
  refine ⟨x', hf.trans (f2.mono (fun c hc => .inr (.inr hc))), ⟨(ne _ (fun e => by rw [e] at hr2; exact hdu (hr2.symm.trans hx'))).trans hr1, hr2, hr3⟩, fun p hp => ?_⟩
  rcases List.mem_cons.1 hp with rfl | hp
  · refine ⟨hx', ?_⟩
    show (W.setCell ⟨qb, 1, none⟩ v).heap[qb]? = _
    rw [heap_setCell_same W qb 1 _ _ _ hb']; rfl
  · obtain ⟨h1, h2⟩ := hk p (List.mem_cons_of_mem _ hp)
    exact ⟨h1, (ne _ (hne p hp)).trans h2⟩
theorem RE.keep {x : Nat → Nat} {d t u : Nat} {w W : World} {rb a : Nat} {s : ByteArray} {ks : List (Nat × Obj)} (h : RE x d t u w rb s a ks W) (row : Array Value) (T : TypeId) : RE x d t u w rb s a ((W.heap.size, .cells row T (0, 0)) :: ks) (W.alloc (.cells row T)) := by
  obtain ⟨x', hf, ⟨h1, h2, h3⟩, hk⟩ := h
  have k : Below W.heap.size W (W.alloc (.cells row T)) := (Below.refl _ _).alloc (Nat.le_refl _) _
  have f2 : Fr x' (paint x' W.heap.size u) (fun e => e = u) W (W.alloc (.cells row T)) := Fr.of_below k rfl
  refine ⟨_, hf.trans (f2.mono (fun c hc => .inr (.inr hc))), ⟨(k.block _ (lt_of_block h1)).trans h1, (paint_old (lt_of_block h1)).trans h2, h3⟩, fun p hp => ?_⟩
  rcases List.mem_cons.1 hp with rfl | hp
  · exact ⟨paint_new (Nat.le_refl _), heap_alloc_new W _⟩
  · obtain ⟨h4, h5⟩ := hk p hp
    exact ⟨(paint_old (lt_of_block h5)).trans h4, (k.block _ (lt_of_block h5)).trans h5⟩
theorem RE.sub {x : Nat → Nat} {d t u : Nat} {w W : World} {rb a : Nat} {s : ByteArray} {ks ks' : List (Nat × Obj)} (h : RE x d t u w rb s a ks W) (hs : ∀ p ∈ ks', p ∈ ks) : RE x d t u w rb s a ks' W := by
  obtain ⟨x', hf, hr, hk⟩ := h
  exact ⟨x', hf, hr, fun p hp => hk p (hs p hp)⟩
/-- a taker in memory, its reader beside -/
def TK (x : Nat → Nat) (d t u : Nat) (w : World) (rb qb : Nat) (s : ByteArray) (a : Nat) (bad : Bool) (ks : List (Nat × Obj)) (W : World) : Prop :=
  RE x d t u w rb s a ((qb, .cells #[.pointer (some ⟨rb, 0, none⟩), .bool bad] 101 (0, 0)) :: ks) W ∧ ∀ p ∈ ks, p.1 ≠ qb
/-- what a take says -/
def TakeP (o : Option (Nat × Nat)) (bad : Bool) (v a' : Nat) (bad' : Bool) : Prop :=
  match o with
  | some q => v = q.1 ∧ a' = q.2 ∧ bad' = bad
  | none => v = 0 ∧ bad' = true
end Go.Proofs.YtflnpcgnenhogaaDoor.ls

namespace Go.Proofs.YtflnpcgnenhogaaDoor.ls
open Go.RowKit Go.Proofs.YtflnpcgnenhogaaDoor.own Go.Proofs.YtflnpcgnenhogaaDoor.bit

theorem RE.drew {x : Nat → Nat} {d t u : Nat} {w W : World} {rb a : Nat} {s : ByteArray} {ks : List (Nat × Obj)} (h : RE x d t u w rb s a ks W) : RE x d t u w rb s a ks W.drew := h.next (Below.drew (Below.refl _ _))
theorem ts_mk {x : Nat → Nat} {d t u : Nat} {w W : World} {rb a sz qb : Nat} {kd kk : Int} {bad : Bool} {s : ByteArray} {ks : List (Nat × Obj)} (h : RE x d t u w rb s a ((sz, .cells #[.int .u8 kd, .int .u64 kk] 85 (0, 0)) :: (qb, .cells #[.pointer (some ⟨rb, 0, none⟩), .bool bad] 101 (0, 0)) :: ks) W) :
    W.cell? ⟨sz, 0, none⟩ = some (.int .u8 kd) ∧ W.cell? ⟨sz, 1, none⟩ = some (.int .u64 kk) ∧ W.cell? ⟨qb, 0, none⟩ = some (.pointer (some ⟨rb, 0, none⟩)) := by
  have r0 := h.row (List.mem_cons_self ..)
  have r1 := h.row (List.mem_cons_of_mem _ (List.mem_cons_self ..))
  exact ⟨by rw [cell_of_row _ _ _ _ _ _ r0]; rfl, by rw [cell_of_row _ _ _ _ _ _ r0]; rfl, by rw [cell_of_row _ _ _ _ _ _ r1]; rfl⟩
set_option maxRecDepth 100000 in
set_option maxHeartbeats 3200000 in
theorem take_any (x : Nat → Nat) (d t u : Nat) (hdt : d ≠ t) (hdu : d ≠ u) (htu : t ≠ u) (c : Cd) (hc : c.ok) (w : World) (rb qb : Nat) (s : ByteArray) (a most : Nat) (hm : most ≤ 1000000) (bad : Bool) (ks : List (Nat × Obj)) (W : World) (h : TK x d t u w rb qb s a bad ks W) :
    Calls Tryd.prog 95 #[.pointer (some ⟨qb, 0, none⟩), cdV c, .int .i64 (most : Int)] W fun e w' =>
      ∃ v a' : Nat, ∃ bad' : Bool, e = .returned (.int .i64 (v : Int)) ∧ TakeP (tk (unpack (nats s)) c most a) bad v a' bad' ∧ TK x d t u w rb qb s a' bad' ks w' := by
  obtain ⟨h1, hne⟩ := h
  have HNE := Lib.hid hne
  have HDU := Lib.hid hdu
  have HB := Lib.hid (fun v n (h : rd c ((unpack (nats s)).drop a) = some (v, n)) => rd_bound c hc h)
  have hmost : c.most ≤ 281474976710654 := by cases c <;> simp [Cd.most]
  obtain ⟨o, ho⟩ : ∃ o, rd c ((unpack (nats s)).drop a) = o := ⟨_, rfl⟩
  have TE : Hid (tk (unpack (nats s)) c most a = o.bind fun q => if q.1 ≤ most then some (q.1, a + q.2) else none) := Lib.hid (by unfold tk; rw [ho])
  have RD := Lib.hid (fun W ks (h : RE x d t u w rb s a ks W) => h.read hdt hdu htu c hc)
  rw [ho] at RD HB
  obtain ⟨O, hO⟩ : ∃ O, tk (unpack (nats s)) c most a = O := ⟨_, rfl⟩
  rw [hO] at TE ⊢
  obtain ⟨kd, kk, hcd⟩ := cdV_shape c
  rw [hcd] at RD ⊢
  generalize c.most = cm at hmost HB
  have hq := lt_of_block (h1.row (List.mem_cons_self ..))
  have h2 := h1.keep #[.int .u8 kd, .int .u64 kk] 85
  clear h1 hne hcd ho hO hdt hdu htu
  go_enter Tryd.func95, Tryd.ntmps95
  go_upto_region 1 with fail
  obtain ⟨sz, hsz⟩ : ∃ z, W.heap.size = z := ⟨_, rfl⟩
  rw [hsz] at h2 hq ⊢
  generalize World.alloc W _ = W0 at h2 ⊢
  have r0 := h2.row (List.mem_cons_self ..)
  have r1 := h2.row (List.mem_cons_of_mem _ (List.mem_cons_self ..))
  have c0 : W0.cell? ⟨sz, 0, none⟩ = some (.int .u8 kd) := by rw [cell_of_row _ _ _ _ _ _ r0]; rfl
  have c1 : W0.cell? ⟨sz, 1, none⟩ = some (.int .u64 kk) := by rw [cell_of_row _ _ _ _ _ _ r0]; rfl
  have c2 : W0.cell? ⟨qb, 0, none⟩ = some (.pointer (some ⟨rb, 0, none⟩)) := by rw [cell_of_row _ _ _ _ _ _ r1]; rfl
  have H2 := Lib.hid h2
  clear r0 r1 h2 hsz hq
  cases o with
  | none =>
    have AN : Hid (O = none) := Lib.hid (by rw [TE.out]; rfl)
    unfold rdV at RD
    go_region_held3 (fun w' => w'.cell? ⟨sz, 0, none⟩ = some (.int .u8 kd) ∧ w'.cell? ⟨sz, 1, none⟩ = some (.int .u64 kk) ∧ w'.cell? ⟨qb, 0, none⟩ = some (.pointer (some ⟨rb, 0, none⟩)))
      (first | exact ts_mk H2.out | exact ts_mk H2.out.drew | exact ts_mk (by assumption) | exact ts_mk (RE.drew (by assumption)))
      (first | (go_at_call 39; refine (RD.out _ _ (by first | exact H2.out.drew | exact H2.out)).mono ?_; rintro e w1 ⟨rfl, h3⟩))
    have T3 := Lib.hid (h3.sub (ks' := (qb, .cells #[.pointer (some ⟨rb, 0, none⟩), .bool bad] 101 (0, 0)) :: ks) (fun p hp => List.mem_cons_of_mem _ hp))
    have r1 := T3.out.row (List.mem_cons_self ..)
    have qf : ∀ j, w1.frozen? ⟨qb, j, none⟩ = false := fun j => frozen_of_row w1 _ j _ _ r1
    have q1 : w1.cell? ⟨qb, 1, none⟩ = some (.bool bad) := by rw [cell_of_row _ _ _ _ _ _ r1]; rfl
    clear c0 c1 c2 h3 r1 H2 RD
    go_wp2_with fail
    go_ret
    refine ⟨0, _, true, rfl, ?_, T3.out.mark HDU.out HNE.out (.bool true), HNE.out⟩
    rw [AN.out]
    exact ⟨rfl, rfl⟩
  | some q =>
    obtain ⟨v, n⟩ := q
    have hv : v ≤ cm := (HB.out v n rfl).1
    have hv2 : v ≤ 281474976710654 := Nat.le_trans hv hmost
    unfold rdV at RD
    go_region_held3 (fun w' => w'.cell? ⟨sz, 0, none⟩ = some (.int .u8 kd) ∧ w'.cell? ⟨sz, 1, none⟩ = some (.int .u64 kk) ∧ w'.cell? ⟨qb, 0, none⟩ = some (.pointer (some ⟨rb, 0, none⟩)))
      (first | exact ts_mk H2.out | exact ts_mk H2.out.drew | exact ts_mk (by assumption) | exact ts_mk (RE.drew (by assumption)))
      (first | (go_at_call 39; refine (RD.out _ _ (by first | exact H2.out.drew | exact H2.out)).mono ?_; rintro e w1 ⟨rfl, h3⟩))
    have T3 := Lib.hid (h3.sub (ks' := (qb, .cells #[.pointer (some ⟨rb, 0, none⟩), .bool bad] 101 (0, 0)) :: ks) (fun p hp => List.mem_cons_of_mem _ hp))
    have r1 := T3.out.row (List.mem_cons_self ..)
    have qf : ∀ j, w1.frozen? ⟨qb, j, none⟩ = false := fun j => frozen_of_row w1 _ j _ _ r1
    have q1 : w1.cell? ⟨qb, 1, none⟩ = some (.bool bad) := by rw [cell_of_row _ _ _ _ _ _ r1]; rfl
    clear c0 c1 c2 h3 r1 H2 RD
    by_cases hvm : v ≤ most
    · have AN : Hid (O = some (v, a + n)) := Lib.hid (by rw [TE.out, Option.bind_some, if_pos hvm])
      have i1 : decide ((most : Int) < (v : Int)) = false := decide_eq_false (by omega)
      have i1n : decide (most < v) = false := decide_eq_false (by omega)
      clear hv hmost
      go_wp2_with fail
      go_ret
      refine ⟨v, _, bad, rfl, ?_, T3.out, HNE.out⟩
      rw [AN.out]
      exact ⟨rfl, rfl, rfl⟩
    · have AN : Hid (O = none) := Lib.hid (by rw [TE.out, Option.bind_some, if_neg hvm])
      have i1 : decide ((most : Int) < (v : Int)) = true := decide_eq_true (by omega)
      have i1n : decide (most < v) = true := decide_eq_true (by omega)
      clear hv hmost
      go_wp2_with fail
      go_ret
      refine ⟨0, _, true, rfl, ?_, T3.out.mark HDU.out HNE.out (.bool true), HNE.out⟩
      rw [AN.out]
      exact ⟨rfl, rfl⟩
end Go.Proofs.YtflnpcgnenhogaaDoor.ls

namespace Go.Proofs.YtflnpcgnenhogaaDoor.ls
open Go.RowKit Go.Proofs.YtflnpcgnenhogaaDoor.own Go.Proofs.YtflnpcgnenhogaaDoor.bit

theorem runs_in (l : List Nat) : ∀ (l' : List Nat) (n : Nat), (∀ v ∈ l', v ∈ l) → l'.foldl (fun q v => rst q (isIn l v)) ([], n) = ([], n + l'.length)
  | [], n, _ => rfl
  | v :: r, n, h => by
    have e : isIn l v = true := decide_eq_true (h v (List.mem_cons_self ..))
    have e2 : rst ([], n) (isIn l v) = ([], n + 1) := by rw [e]; rfl
    rw [List.foldl_cons, e2, runs_in l r (n + 1) (fun u hu => h u (List.mem_cons_of_mem _ hu)), List.length_cons]
    congr 1
    omega
theorem runs_same (l : List Nat) : runs l l = ([], l.length) := by
  have := runs_in l l 0 (fun _ h => h)
  rw [Nat.zero_add] at this
  exact this
theorem left_same (l : List Nat) : leftOf l l = [] := List.filter_eq_nil_iff.2 (fun v hv => by simp [isIn, hv])
theorem lay_same (x r : Nat) (l : List Nat) (p : Pr) (hs : l ≠ []) (hw : 0 < p.win) (hr : 0 < r) : lay x l l r p = cb .gam l.length ++ (cb .una r ++ cb .gam 0) := by
  unfold lay nums hdN tlN runN restN
  rw [if_neg hs, if_pos hw, if_neg hs, if_pos hr, left_same, if_pos rfl, runs_same]
  show bitsOf [(.gam, l.length), (.una, r), (.gam, 0)] = _
  rw [bitsOf_cons, bitsOf_cons, bitsOf_cons, bitsOf_nil, List.append_nil]
theorem lay_none (x r : Nat) (p : Pr) : lay x [] [] r p = cb .gam 0 := by
  unfold lay nums hdN tlN
  rw [if_pos rfl, if_pos rfl]
  show bitsOf [(.gam, 0)] = _
  rw [bitsOf_cons, bitsOf_nil, List.append_nil]
theorem few_head (x r : Nat) (l : List Nat) (hl : l.length ≤ 65536) (hr : 1 ≤ r ∧ r ≤ 16) (R : Bits) :
    ∃ r' a', hread 16 (lay x l l r ⟨16, 2, 3⟩ ++ R) 0 = some (l.length, r', a') ∧ (0 < l.length → (lay x l l r ⟨16, 2, 3⟩).length = a' + 1) := by
  by_cases hs : l = []
  · subst hs
    refine ⟨0, 0 + (cb .gam 0).length, ?_, fun h => by simp at h⟩
    rw [lay_none]
    unfold hread
    rw [List.drop_zero, rd_cb .gam trivial 0 (by decide), Option.bind_some, if_neg (by simp), if_pos (by simp)]
    rfl
  · have h0 : 0 < l.length := List.length_pos_iff.2 hs
    refine ⟨r, 0 + (cb .gam l.length).length + (cb .una r).length, ?_, fun _ => ?_⟩
    · rw [lay_same x r l _ hs (by decide) (by omega), List.append_assoc]
      unfold hread
      rw [List.drop_zero, rd_cb .gam trivial l.length (show l.length ≤ 281474976710654 by omega), Option.bind_some, if_pos ⟨h0, by decide⟩, Nat.zero_add, List.drop_left, List.append_assoc, rd_cb .una trivial r (show r ≤ 65535 by omega), Option.bind_some, if_pos ⟨hl, hr.2⟩]
    · rw [lay_same x r l _ hs (by decide) (by omega), List.length_append, List.length_append]
      have : (cb .gam 0).length = 1 := by rw [cb_gam]; rfl
      omega
theorem cons1_range : ∀ (m a : Nat), cons1 a (List.range' (a + 1) m) = m
  | 0, a => rfl
  | m + 1, a => by rw [List.range'_succ, cons1, if_pos rfl, cons1_range m (a + 1)]
theorem few_same (x x0 n : Nat) (hn : 2 ≤ n) : lay x (List.range' x0 n) [] 0 ⟨16, 2, 3⟩ = lay x (List.range' x0 n) [] 0 ⟨16, 2, 16⟩ := by
  obtain ⟨m, rfl⟩ : ∃ m, n = m + 1 := ⟨n - 1, by omega⟩
  have hl : leftOf (List.range' x0 (m + 1)) [] = List.range' x0 (m + 1) := List.filter_eq_self.2 (fun v _ => by simp [isIn])
  have hr : (rws 2 (List.range' x0 (m + 1))).2 = [] := by
    rw [List.range'_succ, rws_cons, cons1_range, if_pos ⟨by omega, by omega⟩]
    show (rws 2 ((List.range' (x0 + 1) m).drop m)).2 = []
    rw [List.drop_of_length_le (Nat.le_of_eq List.length_range'), rws_nil]
  unfold lay nums hdN tlN restN
  rw [hl]
  dsimp only
  rw [hr]
  rfl
theorem range_ris (x0 n : Nat) (h : x0 + n ≤ 65536) : Ris (List.range' x0 n) := by
  refine ⟨List.pairwise_lt_range' .., fun v hv => ?_⟩
  rw [List.mem_range'_1] at hv
  omega
end Go.Proofs.YtflnpcgnenhogaaDoor.ls

namespace Go.Proofs.YtflnpcgnenhogaaDoor.ls
open Go.RowKit Go.Proofs.YtflnpcgnenhogaaDoor.own Go.Proofs.YtflnpcgnenhogaaDoor.bit

theorem ofN_mod (n v : Nat) : ofN n (v % 2 ^ n) = ofN n v := by
  have h := ofN_num (ofN n v)
  rwa [ofN_length, num_ofN] at h
theorem txt_back (l : List Nat) (h : ∀ x ∈ l, x < 256) : nats (txt l) = l := by
  unfold txt nats
  rw [List.map_map]
  conv => rhs; rw [← List.map_id l]
  apply List.map_congr_left
  intro x hx
  have := h x hx
  simp
  omega
theorem pack_back : ∀ (n : Nat) (b : Bits), b.length ≤ n → ∃ z, unpack (packN b) = b ++ List.replicate z false
  | 0, b, h => by
    obtain rfl := List.eq_nil_of_length_eq_zero (Nat.le_zero.1 h)
    exact ⟨0, by rw [packN_nil]; rfl⟩
  | n + 1, b, h => by
    by_cases hb : b = []
    · subst hb
      exact ⟨0, by rw [packN_nil]; rfl⟩
    · rw [packN_cons hb, unpack_cons]
      obtain ⟨z, hz⟩ := pack_back n (b.drop 8) (by
        have : 0 < b.length := List.length_pos_iff.2 hb
        rw [List.length_drop]; omega)
      rw [hz]
      by_cases h8 : 8 ≤ b.length
      · refine ⟨z, ?_⟩
        have hl : (b.take 8).length = 8 := by rw [List.length_take]; omega
        have e : ofN 8 (bit.byteOf (b.take 8)) = b.take 8 := by
          unfold bit.byteOf
          rw [hl, Nat.sub_self, Nat.pow_zero, Nat.mul_one]
          have := ofN_num (b.take 8)
          rwa [hl] at this
        rw [e, ← List.append_assoc, List.take_append_drop]
      · have hd : b.drop 8 = [] := List.drop_eq_nil_of_le (by omega)
        have ht : b.take 8 = b := List.take_of_length_le (by omega)
        obtain ⟨m, hm⟩ : ∃ m, 8 - b.length = m := ⟨_, rfl⟩
        have e : ofN 8 (bit.byteOf b) = b ++ List.replicate m false := by
          unfold bit.byteOf
          rw [hm, show 8 = b.length + m by omega, ofN_split, Nat.mul_div_cancel _ (Nat.pow_pos (by decide)), ofN_num, ← ofN_mod m, Nat.mul_mod_left, ofN_zero]
        refine ⟨m + z, ?_⟩
        rw [hd, ht, e, List.nil_append, List.append_assoc, List.replicate_append_replicate]
/-- what a packed text says: its bits, then zeros -/
theorem text_back (b : Bits) : ∃ R, unpack (nats (txt (packN b))) = b ++ R := by
  obtain ⟨z, hz⟩ := pack_back _ b (Nat.le_refl _)
  exact ⟨_, by rw [txt_back _ (packN_lt b)]; exact hz⟩

def FS (w : World) (wr : Option (Nat × Bits)) (rd : Option (Nat × ByteArray × Nat)) (ks : List (Nat × Obj)) (W : World) : Prop :=
  ∃ x, Fr (fun _ => 100) x (fun c => c < 50) w W ∧ (∀ q, wr = some q → WrC x 0 W q.1 q.2) ∧ (∀ q, rd = some q → RdC x 5 W q.1 q.2.1 q.2.2) ∧ ∀ p ∈ ks, x p.1 = 4 ∧ W.heap[p.1]? = some p.2
section
variable {w W : World} {wr : Option (Nat × Bits)} {rd : Option (Nat × ByteArray × Nat)} {ks : List (Nat × Obj)}
theorem FS.below (h : FS w wr rd ks W) : Below w.heap.size w W := by
  obtain ⟨x, hf, _⟩ := h
  exact fr_below hf
theorem FS.row (h : FS w wr rd ks W) {b : Nat} {o : Obj} (hm : (b, o) ∈ ks) : W.heap[b]? = some o := by
  obtain ⟨x, _, _, _, hk⟩ := h
  exact (hk _ hm).2
theorem FS.start (w : World) : FS w none none [] w := ⟨_, Fr.refl _ _ _, fun q h => (by cases h), fun q h => (by cases h), fun p hp => (by cases hp)⟩
theorem rdc_frame {x x' : Nat → Nat} {C : Nat → Prop} {d : Nat} {W W' : World} {rb a : Nat} {s : ByteArray} (h : RdC x d W rb s a) (f : Fr x x' C W W') (hC : ¬ C d) : RdC x' d W' rb s a := by
  obtain ⟨h1, h2, h3⟩ := h
  exact ⟨(f.old _ (lt_of_block h1) (by rw [h2]; exact hC)).trans h1, (f.col _ (lt_of_block h1)).trans h2, h3⟩
theorem rows_frame {x x' : Nat → Nat} {C : Nat → Prop} {W W' : World} (h : ∀ p ∈ ks, x p.1 = 4 ∧ W.heap[p.1]? = some p.2) (f : Fr x x' C W W') (hC : ¬ C 4) : ∀ p ∈ ks, x' p.1 = 4 ∧ W'.heap[p.1]? = some p.2 := fun p hp => by
  obtain ⟨h1, h2⟩ := h p hp
  exact ⟨(f.col _ (lt_of_block h2)).trans h1, (f.old _ (lt_of_block h2) (by rw [h1]; exact hC)).trans h2⟩
theorem FS.next (h : FS w wr rd ks W) {W' : World} (k : Below W.heap.size W W') : FS w wr rd ks W' := by
  obtain ⟨x, hf, hw, hr, hk⟩ := h
  have f2 : Fr x (paint x W.heap.size 6) (fun e => e = 6) W W' := Fr.of_below k rfl
  exact ⟨_, hf.trans (f2.mono (fun c hc => by show c < 50; omega)), fun q e => (hw q e).frame f2 (by decide), fun q e => rdc_frame (hr q e) f2 (by decide), rows_frame hk f2 (by decide)⟩
theorem FS.add (h : FS w wr rd ks W) (row : Array Value) (T : TypeId) : FS w wr rd ((W.heap.size, .cells row T (0, 0)) :: ks) (W.alloc (.cells row T)) := by
  obtain ⟨x, hf, hw, hr, hk⟩ := h
  have k : Below W.heap.size W (W.alloc (.cells row T)) := (Below.refl _ _).alloc (Nat.le_refl _) _
  have f2 : Fr x (paint x W.heap.size 4) (fun e => e = 4) W (W.alloc (.cells row T)) := Fr.of_below k rfl
  refine ⟨_, hf.trans (f2.mono (fun c hc => by show c < 50; omega)), fun q e => (hw q e).frame f2 (by decide), fun q e => rdc_frame (hr q e) f2 (by decide), fun p hp => ?_⟩
  rcases List.mem_cons.1 hp with rfl | hp
  · exact ⟨paint_new (Nat.le_refl _), heap_alloc_new W _⟩
  · obtain ⟨h1, h2⟩ := hk p hp
    exact ⟨(paint_old (lt_of_block h2)).trans h1, (k.block _ (lt_of_block h2)).trans h2⟩
theorem FS.new (h : FS w none none ks W) :
    Calls Tryd.prog 7 #[] W fun e w' => ∃ wb : Nat, e = .returned (.pointer (some ⟨wb, 0, none⟩)) ∧ FS w (some (wb, [])) none ks w' := by
  obtain ⟨x, hf, -, -, hk⟩ := h
  refine (new_any x 0 W).mono ?_
  rintro e w' ⟨wb, x', rfl, f2, hw, _⟩
  exact ⟨wb, rfl, x', hf.trans (f2.mono (fun c hc => by show c < 50; omega)), fun q e => by cases e; exact hw, fun q e => (by cases e), rows_frame hk f2 (by decide)⟩
theorem FS.enc {wb : Nat} (h : FS w (some (wb, [])) none ks W) (hG : GL w) (p : Pr) (x : Nat) (a : Option Addr) (succ : List Nat) (cap : Nat) (b : Option Addr) (ref : List Nat) (capb r : Nat) (hc : succ.length ≤ cap) (hcb : ref.length ≤ capb) (hm : MayN x succ ref r p) (hA : LV w a succ) (hB : LV w b ref) :
    Calls Tryd.prog 11 #[.pointer (some ⟨wb, 0, none⟩), .int .i64 (x : Int), .slice a succ.length cap, .slice b ref.length capb, .int .i64 (r : Int), parV (p.win : Int) (p.itv : Int) (p.zet : Int)] W fun e w' =>
      e = .returned (.int .i64 0) ∧ FS w (some (wb, lay x succ ref r p)) none ks w' := by
  have kb := h.below
  obtain ⟨y, hf, hw, -, hk⟩ := h
  have hl := lay_len hm
  refine (lenc_yes y 0 1 2 (by decide) (by decide) (by decide) p x W (hG.below kb) wb [] a succ cap b ref capb r hc hcb hm (hA.below kb) (hB.below kb) (by simp only [List.length_nil]; omega) (hw _ rfl)).mono ?_
  rintro e w' ⟨rfl, x', f2, hw2⟩
  exact ⟨rfl, x', hf.trans (f2.mono (fun c hc => by show c < 50; omega)), fun q e => by cases e; exact hw2, fun q e => (by cases e), rows_frame hk f2 (by decide)⟩
theorem FS.text {wb : Nat} {l : Bits} (h : FS w (some (wb, l)) rd ks W) :
    Calls Tryd.prog 13 #[.pointer (some ⟨wb, 0, none⟩)] W fun e w' => e = .returned (.tuple #[.string (txt (packN l)), .int .i64 0]) ∧ W = w' := by
  obtain ⟨x, _, hw, _⟩ := h
  exact text_any x 0 W wb l (hw _ rfl)
theorem FS.len {wb : Nat} {l : Bits} (h : FS w (some (wb, l)) rd ks W) :
    Calls Tryd.prog 19 #[.pointer (some ⟨wb, 0, none⟩)] W fun e w' => e = .returned (.int .i64 (l.length : Int)) ∧ W = w' := by
  obtain ⟨x, _, hw, _⟩ := h
  exact len_any x 0 W wb l (hw _ rfl)
theorem FS.open (h : FS w wr none ks W) (s : ByteArray) (hs : s.size ≤ 1152921504606846975) :
    Calls Tryd.prog 20 #[.string s] W fun e w' => ∃ rb : Nat, e = .returned (.pointer (some ⟨rb, 0, none⟩)) ∧ FS w wr (some (rb, s, 0)) ks w' := by
  obtain ⟨x, hf, hw, -, hk⟩ := h
  refine (ropen_any x 5 s hs W).mono ?_
  rintro e w' ⟨rb, x', rfl, f2, hr, _⟩
  exact ⟨rb, rfl, x', hf.trans (f2.mono (fun c hc => by show c < 50; omega)), fun q e => (hw q e).frame f2 (by decide), fun q e => by cases e; exact hr, rows_frame hk f2 (by decide)⟩
theorem FS.at_ {rb a : Nat} {s : ByteArray} (h : FS w wr (some (rb, s, a)) ks W) :
    Calls Tryd.prog 24 #[.pointer (some ⟨rb, 0, none⟩)] W fun e w' => e = .returned (.int .i64 (a : Int)) ∧ W = w' := by
  obtain ⟨x, _, _, hr, _⟩ := h
  exact At_any x 5 W rb s a (hr _ rfl)
theorem FS.head {rb a : Nat} {s : ByteArray} (h : FS w wr (some (rb, s, a)) ks W) (hG : GL w) (p : Pr) (hp : p.ok) :
    Calls Tryd.prog 21 #[.pointer (some ⟨rb, 0, none⟩), parV (p.win : Int) (p.itv : Int) (p.zet : Int)] W fun e w' =>
      e = .returned (hrV (hread p.win (unpack (nats s)) a)) ∧ FS w wr (some (rb, s, hrA a (hread p.win (unpack (nats s)) a))) ks w' := by
  have kb := h.below
  obtain ⟨x, hf, hw, hr, hk⟩ := h
  have e0 : x 0 = 100 := hf.col 0 (World.block_lt_of_cell? _ _ hG.g0)
  have e1 : x 1 = 100 := hf.col 1 (World.block_lt_of_cell? _ _ hG.u0)
  refine (head_any x 5 1 2 (by decide) (by decide) (by decide) p hp W (hG.below kb) (by rw [e0, e1]; decide) rb s a (hr _ rfl)).mono ?_
  rintro e w' ⟨rfl, x', f2, hr2⟩
  exact ⟨rfl, x', hf.trans (f2.mono (fun c hc => by show c < 50; omega)), fun q e => (hw q e).frame f2 (by decide), fun q e => by cases e; exact hr2, rows_frame hk f2 (by decide)⟩
end
/-- a row of the law's own is a list that is only read -/
theorem lv_own {w : World} {base : Nat} {v : Value} {l : List Nat} (hl : l.length ≤ 4611686018427387903) (hb : ∀ u ∈ l, u < 4294967296) (h : w.ownsRow base 60 1 v l.length (u32V l)) : ∃ a cap, v = .slice a l.length cap ∧ l.length ≤ cap ∧ LV w a l := by
  rcases h.2 with ⟨hv, h0⟩ | ⟨g, cap, cur, hv, hbb, hg, hn, hc, hcs, _⟩
  · exact ⟨none, 0, by rw [hv, h0], by omega, hl, fun k hk => by omega⟩
  · subst hv
    refine ⟨_, _, rfl, hn, hl, fun k hk => ⟨g, 0, rfl, lt_of_block hg, ?_, hb _ (List.getElem_mem hk)⟩⟩
    rw [Nat.zero_add, h.cellAt k (by omega)]
    simp [u32V, hk]
end Go.Proofs.YtflnpcgnenhogaaDoor.ls

namespace Go.Proofs.YtflnpcgnenhogaaDoor.ls
open Go.RowKit Go.Proofs.YtflnpcgnenhogaaDoor.own Go.Proofs.YtflnpcgnenhogaaDoor.bit

/-- a list that is only read stays where blocks of its colour are not turned -/
theorem LV.fr {x x' : Nat → Nat} {C : Nat → Prop} {w w' : World} {a : Option Addr} {l : List Nat} (h : LV w a l) (f : Fr x x' C w w') (hc : ∀ g o, a = some ⟨g, o, none⟩ → ¬ C (x g)) : LV w' a l :=
  ⟨h.1, fun i hi => by
    obtain ⟨g, o, h1, h2, h3, h4⟩ := h.2 i hi
    exact ⟨g, o, h1, Nat.lt_of_lt_of_le h2 f.size, (World.cell?_of_block (f.old g h2 (hc g o h1))).trans h3, h4⟩⟩
/-- some block of the rows grew, or a new one was made -/
theorem RE.grown {x : Nat → Nat} {d t u : Nat} (hdu : d ≠ u) {w W W2 : World} {rb a : Nat} {s : ByteArray} {ks ks' : List (Nat × Obj)} {row : Option Nat} (h : RE x d t u w rb s a ks W) (hg : W.grownBy W2 row) (hrow : ∀ g, row = some g → ∃ o, (g, o) ∈ ks)
    (hk' : ∀ p ∈ ks', (p ∈ ks ∧ some p.1 ≠ row) ∨ ((some p.1 = row ∨ W.heap.size ≤ p.1) ∧ W2.heap[p.1]? = some p.2)) : RE x d t u w rb s a ks' W2 := by
  obtain ⟨x', hf, ⟨hr1, hr2, hr3⟩, hk⟩ := h
  have hcol : ∀ g, row = some g → x' g = u ∧ g < W.heap.size := fun g e => by
    obtain ⟨o, ho⟩ := hrow g e
    have := hk _ ho
    exact ⟨this.1, lt_of_block this.2⟩
  have f2 : Fr x' (paint x' W.heap.size u) (fun e => e = u) W W2 := Fr.of_steps hg.os hg.tape hg.output hg.size rfl (fun b hb hu => hg.block b hb (fun e => hu (hcol b e.symm).1))
  have keep : ∀ b, b < W.heap.size → some b ≠ row → W2.heap[b]? = W.heap[b]? := fun b hb hne => hg.block b hb hne
  refine ⟨_, hf.trans (f2.mono (fun c hc => .inr (.inr hc))), ⟨(keep _ (lt_of_block hr1) (fun e => hdu (hr2.symm.trans (hcol _ e.symm).1))).trans hr1, (paint_old (lt_of_block hr1)).trans hr2, hr3⟩, fun p hp => ?_⟩
  rcases hk' p hp with ⟨h1, h2⟩ | ⟨h1, h2⟩
  · obtain ⟨h3, h4⟩ := hk p h1
    exact ⟨(paint_old (lt_of_block h4)).trans h3, (keep _ (lt_of_block h4) h2).trans h4⟩
  · refine ⟨?_, h2⟩
    rcases h1 with h1 | h1
    · have := hcol _ h1.symm
      exact (paint_old this.2).trans this.1
    · exact paint_new h1
theorem own_same {W W' : World} {base : Nat} {T : TypeId} {v : Value} {n : Nat} {xs : List Value} (h : W.ownsRow base T 1 v n xs) (hs : ∀ g, v.ownBlock = some g → W'.heap[g]? = W.heap[g]?) : W'.ownsRow base T 1 v n xs := by
  refine ⟨h.1, ?_⟩
  rcases h.2 with h2 | ⟨g, cap, cur, hv, hb, hg, r⟩
  · exact .inl h2
  · exact .inr ⟨g, cap, cur, hv, hb, (hs g (by rw [hv]; rfl)).trans hg, r⟩
theorem own_block {W : World} {base : Nat} {T : TypeId} {v : Value} {n : Nat} {xs : List Value} (h : W.ownsRow base T 1 v n xs) {g : Nat} (hv : v.ownBlock = some g) : ∃ o, W.heap[g]? = some o := by
  rcases h.2 with ⟨rfl, _⟩ | ⟨g', cap, cur, rfl, _, hg, _⟩
  · cases hv
  · cases hv
    exact ⟨_, hg⟩
/-- a taker, a list of its call's own, rows beside -/
def TR (x : Nat → Nat) (d t u : Nat) (w : World) (rb qb : Nat) (s : ByteArray) (a : Nat) (bad : Bool) (ks : List (Nat × Obj)) (l : List Nat) (v : Value) (W : World) : Prop :=
  W.ownsRow 0 60 1 v l.length (u32V l) ∧ ∃ ks', (∀ g, v.ownBlock = some g → ∃ o, (g, o) ∈ ks') ∧ (∀ p ∈ ks', some p.1 = v.ownBlock) ∧ (∀ p ∈ ks, some p.1 ≠ v.ownBlock) ∧ TK x d t u w rb qb s a bad (ks' ++ ks) W
section
variable {x : Nat → Nat} {d t u : Nat} {w W : World} {rb qb a : Nat} {s : ByteArray} {bad : Bool} {ks : List (Nat × Obj)} {l : List Nat} {v : Value}
theorem TK.next (h : TK x d t u w rb qb s a bad ks W) {W' : World} (k : Below W.heap.size W W') : TK x d t u w rb qb s a bad ks W' := ⟨h.1.next k, h.2⟩
theorem TR.nil (h : TK x d t u w rb qb s a bad ks W) : TR x d t u w rb qb s a bad ks [] (.slice none 0 0) W :=
  ⟨World.ownsRow_nil _ _ _ _, [], fun _ hg => (by cases hg), fun _ hp => (by cases hp), fun _ _ e => (by cases e), h⟩
theorem TR.next (h : TR x d t u w rb qb s a bad ks l v W) {W' : World} (k : Below W.heap.size W W') : TR x d t u w rb qb s a bad ks l v W' := by
  obtain ⟨h1, ks', h2, h3, h4, h5⟩ := h
  exact ⟨own_below h1 k, ks', h2, h3, h4, h5.next k⟩
theorem TR.drewN (h : TR x d t u w rb qb s a bad ks l v W) (n : Nat) : TR x d t u w rb qb s a bad ks l v (W.drewN n) := h.next ⟨rfl, rfl, rfl, Nat.le_refl _, fun _ _ => rfl⟩
theorem TR.drew (h : TR x d t u w rb qb s a bad ks l v W) : TR x d t u w rb qb s a bad ks l v W.drew := h.next (Below.drew (Below.refl _ _))
theorem TR.base (h : TR x d t u w rb qb s a bad ks l v W) : TK x d t u w rb qb s a bad ks W := by
  obtain ⟨h1, ks', h2, h3, h4, h5, h6⟩ := h
  refine ⟨h5.sub (fun p hp => ?_), fun p hp => h6 p (List.mem_append_right _ hp)⟩
  rcases List.mem_cons.1 hp with rfl | hp
  · exact List.mem_cons_self ..
  · exact List.mem_cons_of_mem _ (List.mem_append_right _ hp)
theorem TR.re (h : TR x d t u w rb qb s a bad ks l v W) : RE x d t u w rb s a ks W := h.base.1.sub (fun _ hp => List.mem_cons_of_mem _ hp)
theorem TR.le (h : TR x d t u w rb qb s a bad ks l v W) : a ≤ 8 * s.size := h.re.le
/-- what stands about the taker's cells -/
theorem TR.cells (h : TR x d t u w rb qb s a bad ks l v W) : W.cell? ⟨qb, 0, none⟩ = some (.pointer (some ⟨rb, 0, none⟩)) ∧ W.cell? ⟨qb, 1, none⟩ = some (.bool bad) ∧ ∀ j, W.frozen? ⟨qb, j, none⟩ = false := by
  have r := h.base.1.row (List.mem_cons_self ..)
  exact ⟨by rw [cell_of_row _ _ _ _ _ _ r]; rfl, by rw [cell_of_row _ _ _ _ _ _ r]; rfl, fun j => frozen_of_row W _ j _ _ r⟩
theorem TR.mark (hdu : d ≠ u) (h : TR x d t u w rb qb s a bad ks l v W) (b : Bool) : TR x d t u w rb qb s a b ks l v (W.setCell ⟨qb, 1, none⟩ (.bool b)) := by
  obtain ⟨h1, ks', h2, h3, h4, h5, h6⟩ := h
  have hne : ∀ g, v.ownBlock = some g → g ≠ qb := fun g hg => by
    obtain ⟨o, ho⟩ := h2 g hg
    exact h6 _ (List.mem_append_left _ ho)
  exact ⟨own_same h1 (fun g hg => Below.heap_setCell W ⟨qb, 1, none⟩ _ g (hne g hg)), ks', h2, h3, h4, h5.mark hdu h6 _, h6⟩
theorem TR.take (hdt : d ≠ t) (hdu : d ≠ u) (htu : t ≠ u) (c : Cd) (hc : c.ok) (most : Nat) (hm : most ≤ 1000000) (h : TR x d t u w rb qb s a bad ks l v W) :
    Calls Tryd.prog 95 #[.pointer (some ⟨qb, 0, none⟩), cdV c, .int .i64 (most : Int)] W fun e w' =>
      ∃ z a' : Nat, ∃ bad' : Bool, e = .returned (.int .i64 (z : Int)) ∧ TakeP (tk (unpack (nats s)) c most a) bad z a' bad' ∧ TR x d t u w rb qb s a' bad' ks l v w' := by
  obtain ⟨h1, ks', h2, h3, h4, h5⟩ := h
  refine (take_any x d t u hdt hdu htu c hc w rb qb s a most hm bad _ W h5).mono ?_
  rintro e w' ⟨z, a', bad', rfl, hp, h6⟩
  refine ⟨z, a', bad', rfl, hp, own_same h1 (fun g hg => ?_), ks', h2, h3, h4, h6⟩
  obtain ⟨o, ho⟩ := h2 g hg
  have e1 := h5.1.row (b := g) (o := o) (List.mem_cons_of_mem _ (List.mem_append_left _ ho))
  have e2 := h6.1.row (b := g) (o := o) (List.mem_cons_of_mem _ (List.mem_append_left _ ho))
  rw [e1, e2]
theorem TR.set (hdu : d ≠ u) (h : TR x d t u w rb qb s a bad ks l v W) {W2 : World} {v' : Value} (l2 : List Nat) (own : W2.ownsRow 0 60 1 v' l2.length (u32V l2)) (hg : W.grownBy W2 v.ownBlock)
    (hw : v'.ownBlock = v.ownBlock ∨ v'.ownBlock = some W.heap.size) : TR x d t u w rb qb s a bad ks l2 v' W2 := by
  obtain ⟨h1, ks', h2, h3, h4, h5, h6⟩ := h
  have hlt : ∀ p ∈ ks, p.1 < W.heap.size := fun p hp => lt_of_block (h5.row (b := p.1) (o := p.2) (List.mem_cons_of_mem _ (List.mem_append_right _ hp)))
  have hq := lt_of_block (h5.row (List.mem_cons_self ..))
  have hqv : some qb ≠ v.ownBlock := fun e => by
    obtain ⟨o, ho⟩ := h2 qb e.symm
    exact h6 _ (List.mem_append_left _ ho) rfl
  have hnew : ∀ b, b < W.heap.size → some b ≠ v.ownBlock → some b ≠ v'.ownBlock := fun b hb hne e => by
    rcases hw with h | h
    · exact hne (e.trans h)
    · rw [h] at e
      injection e with e
      omega
  obtain ⟨ks2, hk1, hk2, hk3⟩ : ∃ ks2 : List (Nat × Obj), (∀ g, v'.ownBlock = some g → ∃ o, (g, o) ∈ ks2) ∧ (∀ p ∈ ks2, some p.1 = v'.ownBlock) ∧ ∀ p ∈ ks2, W2.heap[p.1]? = some p.2 := by
    rcases hv : v'.ownBlock with _ | g
    · exact ⟨[], fun _ hg => (by cases hg), fun _ hp => (by cases hp), fun _ hp => (by cases hp)⟩
    · obtain ⟨o, ho⟩ := own_block own hv
      refine ⟨[(g, o)], fun g' hg' => ⟨o, by cases hg'; exact List.mem_cons_self ..⟩, fun p hp => ?_, fun p hp => ?_⟩
      · rw [List.mem_singleton.1 hp]
      · rw [List.mem_singleton.1 hp]; exact ho
  refine ⟨own, ks2, hk1, hk2, fun p hp => hnew _ (hlt p hp) (h4 p hp), h5.grown hdu hg (fun g e => ?_) (fun p hp => ?_), fun p hp => ?_⟩
  · obtain ⟨o, ho⟩ := h2 g e
    exact ⟨o, List.mem_cons_of_mem _ (List.mem_append_left _ ho)⟩
  · rcases List.mem_cons.1 hp with rfl | hp
    · exact .inl ⟨List.mem_cons_self .., hqv⟩
    · rcases List.mem_append.1 hp with hp | hp
      · refine .inr ⟨?_, hk3 p hp⟩
        rcases hw with h | h
        · exact .inl ((hk2 p hp).trans h)
        · refine .inr ?_
          have := (hk2 p hp).trans h
          injection this with this
          omega
      · exact .inl ⟨List.mem_cons_of_mem _ (List.mem_append_right _ hp), h4 p hp⟩
  · rcases List.mem_append.1 hp with hp | hp
    · intro e
      exact hnew qb hq hqv (e ▸ hk2 p hp)
    · exact h6 p (List.mem_append_right _ hp)
theorem TR.add (hdu : d ≠ u) (h : TR x d t u w rb qb s a bad ks l v W) {W2 : World} {v' : Value} (l2 : List Nat) (m : Nat) (hm : l2.length = m) (own : W2.ownsRow 0 60 1 v' (l.length + m) (u32V l ++ u32V l2)) (hg : W.grownBy W2 v.ownBlock)
    (hw : v'.ownBlock = v.ownBlock ∨ v'.ownBlock = some W.heap.size) : TR x d t u w rb qb s a bad ks (l ++ l2) v' W2 :=
  h.set hdu (l ++ l2) (by rw [List.length_append, hm, u32V_append]; exact own) hg hw
end
/-- append of a list that is only read, empty or not -/
theorem wpList_append_lv {P : Program} (w : World) {ops : Array Oper} {rest : List Oper} {o : Oper} {a : Act} {Q : Exit → Act → World → Prop} (hgd : o.guard = none) (s x : Operand) (t : TypeId)
    (ho : o.op = .call { callee := .builtin .append, args := #[s, x], argTypes := #[t, t] })
    (base : Nat) (e : TypeId) (i : TypeInfo) (z : Value) (bytes : Nat) (ht : P.underlying t = some (.slice e)) (hi : P.info? e = some i) (hz : i.zero = some z)
    (hsize : i.size = 1) (hby : i.bytes = bytes) (hzs : z.cells.size = 1)
    (v : Value) (n : Nat) (xs : List Value) (hs : a.eval s = v) (hown : w.ownsRow base e 1 v n xs) (ao : Option Addr) (m c : Nat) (l : List Nat) (hx : a.eval x = .slice ao m c) (hm : l.length = m) (hLV : LV w ao l)
    (h63 : n + m ≤ maxLen) (hbytes : (n + m) * bytes ≤ 140737488355328) (hbase : base ≤ w.heap.size)
    (h : ∀ v' w', w'.ownsRow base e 1 v' (n + m) (xs ++ u32V l) → w.grownBy w' v.ownBlock → (v'.ownBlock = v.ownBlock ∨ v'.ownBlock = some w.heap.size) → wpList P ops Q rest (a.put o.dst v') w') :
    wpList P ops Q (o :: rest) a w := by
  by_cases h0 : 0 < m
  · obtain ⟨g, of, rfl⟩ := hLV.addr (by omega)
    have hc := hLV.cells m
    rw [List.take_of_length_le (by omega)] at hc
    exact wpList_append_at w hgd s x t ho base e i z 1 bytes ht hi hz hsize hby hzs (by decide) v n xs hs hown ⟨g, of, none⟩ m c (u32V l) hx (by rw [u32V, List.length_map, hm, Nat.mul_one]) hc (u32_one l) h63 hbytes hbase h0 h
  · obtain rfl : m = 0 := by omega
    obtain rfl : l = [] := List.eq_nil_of_length_eq_zero hm
    obtain ⟨av, cv, hv, hle⟩ := own_slice hown
    have hsrc : Src P i.size t (.slice ao 0 c) 0 [] w := by
      cases ao with
      | none => exact Src.ofNil w ht c
      | some ad => exact Src.ofSlice w ht _ 0 c [] (by simp) (fun j u hu => by simp at hu) (fun u hu => by cases hu)
    refine wpList_plain hgd fun K hK => ?_
    have hr := run_append_nothing (P := P) w t t o.type e i ht hi av n cv hle (.slice ao 0 c) hsrc
    unfold Oper.wp execOp
    subst hv
    simp only [ho, resolve, invoke, builtin, Sem.run_bind, Sem.run_pure, Result.andThen_ok, List.map_toArray, List.map_cons, List.map_nil, hs, hx, hr]
    refine hK _ _ (h _ _ ?_ ⟨rfl, rfl, rfl, Nat.le_refl _, fun _ _ _ => rfl⟩ (.inl rfl))
    show w.ownsRow base e 1 _ (n + 0) (xs ++ [])
    rw [List.append_nil]
    exact hown
end Go.Proofs.YtflnpcgnenhogaaDoor.ls
