/- list: what the law of few holds on its way: a writer, a reader, rows beside. -/
import Derived.Test.YtflnpcgnenhogaaDoorLsX
namespace Go.Proofs.YtflnpcgnenhogaaDoor.ls
open Go.RowKit Go.Proofs.YtflnpcgnenhogaaDoor.own Go.Proofs.YtflnpcgnenhogaaDoor.bit

theorem ofN_mod (n v : Nat) : ofN n (v % 2 ^ n) = ofN n v := by
  have h := ofN_num (ofN n v)
  rwa [ofN_length, num_ofN] at h
theorem txt_back (l : List Nat) (h : ∀ x ∈ l, x < 256) : nats (txt l) = l := by
  unfold txt nats
  rw [List.map_map]
  conv => rhs; rw [← List.map_id l]
  apply List.map_congr_left
  intro x hx
  have := h x hx
  simp
  omega
theorem pack_back : ∀ (n : Nat) (b : Bits), b.length ≤ n → ∃ z, unpack (packN b) = b ++ List.replicate z false
  | 0, b, h => by
    obtain rfl := List.eq_nil_of_length_eq_zero (Nat.le_zero.1 h)
    exact ⟨0, by rw [packN_nil]; rfl⟩
  | n + 1, b, h => by
    by_cases hb : b = []
    · subst hb
      exact ⟨0, by rw [packN_nil]; rfl⟩
    · rw [packN_cons hb, unpack_cons]
      obtain ⟨z, hz⟩ := pack_back n (b.drop 8) (by
        have : 0 < b.length := List.length_pos_iff.2 hb
        rw [List.length_drop]; omega)
      rw [hz]
      by_cases h8 : 8 ≤ b.length
      · refine ⟨z, ?_⟩
        have hl : (b.take 8).length = 8 := by rw [List.length_take]; omega
        have e : ofN 8 (bit.byteOf (b.take 8)) = b.take 8 := by
          unfold bit.byteOf
          rw [hl, Nat.sub_self, Nat.pow_zero, Nat.mul_one]
          have := ofN_num (b.take 8)
          rwa [hl] at this
        rw [e, ← List.append_assoc, List.take_append_drop]
      · have hd : b.drop 8 = [] := List.drop_eq_nil_of_le (by omega)
        have ht : b.take 8 = b := List.take_of_length_le (by omega)
        obtain ⟨m, hm⟩ : ∃ m, 8 - b.length = m := ⟨_, rfl⟩
        have e : ofN 8 (bit.byteOf b) = b ++ List.replicate m false := by
          unfold bit.byteOf
          rw [hm, show 8 = b.length + m by omega, ofN_split, Nat.mul_div_cancel _ (Nat.pow_pos (by decide)), ofN_num, ← ofN_mod m, Nat.mul_mod_left, ofN_zero]
        refine ⟨m + z, ?_⟩
        rw [hd, ht, e, List.nil_append, List.append_assoc, List.replicate_append_replicate]
/-- what a packed text says: its bits, then zeros -/
theorem text_back (b : Bits) : ∃ R, unpack (nats (txt (packN b))) = b ++ R := by
  obtain ⟨z, hz⟩ := pack_back _ b (Nat.le_refl _)
  exact ⟨_, by rw [txt_back _ (packN_lt b)]; exact hz⟩

def FS (w : World) (wr : Option (Nat × Bits)) (rd : Option (Nat × ByteArray × Nat)) (ks : List (Nat × Obj)) (W : World) : Prop :=
  ∃ x, Fr (fun _ => 100) x (fun c => c < 50) w W ∧ (∀ q, wr = some q → WrC x 0 W q.1 q.2) ∧ (∀ q, rd = some q → RdC x 5 W q.1 q.2.1 q.2.2) ∧ ∀ p ∈ ks, x p.1 = 4 ∧ W.heap[p.1]? = some p.2
section
variable {w W : World} {wr : Option (Nat × Bits)} {rd : Option (Nat × ByteArray × Nat)} {ks : List (Nat × Obj)}
theorem FS.below (h : FS w wr rd ks W) : Below w.heap.size w W := by
  obtain ⟨x, hf, _⟩ := h
  exact fr_below hf
theorem FS.row (h : FS w wr rd ks W) {b : Nat} {o : Obj} (hm : (b, o) ∈ ks) : W.heap[b]? = some o := by
  obtain ⟨x, _, _, _, hk⟩ := h
  exact (hk _ hm).2
theorem FS.start (w : World) : FS w none none [] w := ⟨_, Fr.refl _ _ _, fun q h => (by cases h), fun q h => (by cases h), fun p hp => (by cases hp)⟩
theorem rdc_frame {x x' : Nat → Nat} {C : Nat → Prop} {d : Nat} {W W' : World} {rb a : Nat} {s : ByteArray} (h : RdC x d W rb s a) (f : Fr x x' C W W') (hC : ¬ C d) : RdC x' d W' rb s a := by
  obtain ⟨h1, h2, h3⟩ := h
  exact ⟨(f.old _ (lt_of_block h1) (by rw [h2]; exact hC)).trans h1, (f.col _ (lt_of_block h1)).trans h2, h3⟩
theorem rows_frame {x x' : Nat → Nat} {C : Nat → Prop} {W W' : World} (h : ∀ p ∈ ks, x p.1 = 4 ∧ W.heap[p.1]? = some p.2) (f : Fr x x' C W W') (hC : ¬ C 4) : ∀ p ∈ ks, x' p.1 = 4 ∧ W'.heap[p.1]? = some p.2 := fun p hp => by
  obtain ⟨h1, h2⟩ := h p hp
  exact ⟨(f.col _ (lt_of_block h2)).trans h1, (f.old _ (lt_of_block h2) (by rw [h1]; exact hC)).trans h2⟩
theorem FS.next (h : FS w wr rd ks W) {W' : World} (k : Below W.heap.size W W') : FS w wr rd ks W' := by
  obtain ⟨x, hf, hw, hr, hk⟩ := h
  have f2 : Fr x (paint x W.heap.size 6) (fun e => e = 6) W W' := Fr.of_below k rfl
  exact ⟨_, hf.trans (f2.mono (fun c hc => by show c < 50; omega)), fun q e => (hw q e).frame f2 (by decide), fun q e => rdc_frame (hr q e) f2 (by decide), rows_frame hk f2 (by decide)⟩
theorem FS.add (h : FS w wr rd ks W) (row : Array Value) (T : TypeId) : FS w wr rd ((W.heap.size, .cells row T (0, 0)) :: ks) (W.alloc (.cells row T)) := by
  obtain ⟨x, hf, hw, hr, hk⟩ := h
  have k : Below W.heap.size W (W.alloc (.cells row T)) := (Below.refl _ _).alloc (Nat.le_refl _) _
  have f2 : Fr x (paint x W.heap.size 4) (fun e => e = 4) W (W.alloc (.cells row T)) := Fr.of_below k rfl
  refine ⟨_, hf.trans (f2.mono (fun c hc => by show c < 50; omega)), fun q e => (hw q e).frame f2 (by decide), fun q e => rdc_frame (hr q e) f2 (by decide), fun p hp => ?_⟩
  rcases List.mem_cons.1 hp with rfl | hp
  · exact ⟨paint_new (Nat.le_refl _), heap_alloc_new W _⟩
  · obtain ⟨h1, h2⟩ := hk p hp
    exact ⟨(paint_old (lt_of_block h2)).trans h1, (k.block _ (lt_of_block h2)).trans h2⟩
theorem FS.new (h : FS w none none ks W) :
    Calls Tryd.prog 7 #[] W fun e w' => ∃ wb : Nat, e = .returned (.pointer (some ⟨wb, 0, none⟩)) ∧ FS w (some (wb, [])) none ks w' := by
  obtain ⟨x, hf, -, -, hk⟩ := h
  refine (new_any x 0 W).mono ?_
  rintro e w' ⟨wb, x', rfl, f2, hw, _⟩
  exact ⟨wb, rfl, x', hf.trans (f2.mono (fun c hc => by show c < 50; omega)), fun q e => by cases e; exact hw, fun q e => (by cases e), rows_frame hk f2 (by decide)⟩
theorem FS.enc {wb : Nat} (h : FS w (some (wb, [])) none ks W) (hG : GL w) (p : Pr) (x : Nat) (a : Option Addr) (succ : List Nat) (cap : Nat) (b : Option Addr) (ref : List Nat) (capb r : Nat) (hc : succ.length ≤ cap) (hcb : ref.length ≤ capb) (hm : MayN x succ ref r p) (hA : LV w a succ) (hB : LV w b ref) :
    Calls Tryd.prog 11 #[.pointer (some ⟨wb, 0, none⟩), .int .i64 (x : Int), .slice a succ.length cap, .slice b ref.length capb, .int .i64 (r : Int), parV (p.win : Int) (p.itv : Int) (p.zet : Int)] W fun e w' =>
      e = .returned (.int .i64 0) ∧ FS w (some (wb, lay x succ ref r p)) none ks w' := by
  have kb := h.below
  obtain ⟨y, hf, hw, -, hk⟩ := h
  have hl := lay_len hm
  refine (lenc_yes y 0 1 2 (by decide) (by decide) (by decide) p x W (hG.below kb) wb [] a succ cap b ref capb r hc hcb hm (hA.below kb) (hB.below kb) (by simp only [List.length_nil]; omega) (hw _ rfl)).mono ?_
  rintro e w' ⟨rfl, x', f2, hw2⟩
  exact ⟨rfl, x', hf.trans (f2.mono (fun c hc => by show c < 50; omega)), fun q e => by cases e; exact hw2, fun q e => (by cases e), rows_frame hk f2 (by decide)⟩
theorem FS.text {wb : Nat} {l : Bits} (h : FS w (some (wb, l)) rd ks W) :
    Calls Tryd.prog 13 #[.pointer (some ⟨wb, 0, none⟩)] W fun e w' => e = .returned (.tuple #[.string (txt (packN l)), .int .i64 0]) ∧ W = w' := by
  obtain ⟨x, _, hw, _⟩ := h
  exact text_any x 0 W wb l (hw _ rfl)
theorem FS.len {wb : Nat} {l : Bits} (h : FS w (some (wb, l)) rd ks W) :
    Calls Tryd.prog 19 #[.pointer (some ⟨wb, 0, none⟩)] W fun e w' => e = .returned (.int .i64 (l.length : Int)) ∧ W = w' := by
  obtain ⟨x, _, hw, _⟩ := h
  exact len_any x 0 W wb l (hw _ rfl)
theorem FS.open (h : FS w wr none ks W) (s : ByteArray) (hs : s.size ≤ 1152921504606846975) :
    Calls Tryd.prog 20 #[.string s] W fun e w' => ∃ rb : Nat, e = .returned (.pointer (some ⟨rb, 0, none⟩)) ∧ FS w wr (some (rb, s, 0)) ks w' := by
  obtain ⟨x, hf, hw, -, hk⟩ := h
  refine (ropen_any x 5 s hs W).mono ?_
  rintro e w' ⟨rb, x', rfl, f2, hr, _⟩
  exact ⟨rb, rfl, x', hf.trans (f2.mono (fun c hc => by show c < 50; omega)), fun q e => (hw q e).frame f2 (by decide), fun q e => by cases e; exact hr, rows_frame hk f2 (by decide)⟩
theorem FS.at_ {rb a : Nat} {s : ByteArray} (h : FS w wr (some (rb, s, a)) ks W) :
    Calls Tryd.prog 24 #[.pointer (some ⟨rb, 0, none⟩)] W fun e w' => e = .returned (.int .i64 (a : Int)) ∧ W = w' := by
  obtain ⟨x, _, _, hr, _⟩ := h
  exact At_any x 5 W rb s a (hr _ rfl)
theorem FS.head {rb a : Nat} {s : ByteArray} (h : FS w wr (some (rb, s, a)) ks W) (hG : GL w) (p : Pr) (hp : p.ok) :
    Calls Tryd.prog 21 #[.pointer (some ⟨rb, 0, none⟩), parV (p.win : Int) (p.itv : Int) (p.zet : Int)] W fun e w' =>
      e = .returned (hrV (hread p.win (unpack (nats s)) a)) ∧ FS w wr (some (rb, s, hrA a (hread p.win (unpack (nats s)) a))) ks w' := by
  have kb := h.below
  obtain ⟨x, hf, hw, hr, hk⟩ := h
  have e0 : x 0 = 100 := hf.col 0 (World.block_lt_of_cell? _ _ hG.g0)
  have e1 : x 1 = 100 := hf.col 1 (World.block_lt_of_cell? _ _ hG.u0)
  refine (head_any x 5 1 2 (by decide) (by decide) (by decide) p hp W (hG.below kb) (by rw [e0, e1]; decide) rb s a (hr _ rfl)).mono ?_
  rintro e w' ⟨rfl, x', f2, hr2⟩
  exact ⟨rfl, x', hf.trans (f2.mono (fun c hc => by show c < 50; omega)), fun q e => (hw q e).frame f2 (by decide), fun q e => by cases e; exact hr2, rows_frame hk f2 (by decide)⟩
end
/-- a row of the law's own is a list that is only read -/
theorem lv_own {w : World} {base : Nat} {v : Value} {l : List Nat} (hl : l.length ≤ 4611686018427387903) (hb : ∀ u ∈ l, u < 4294967296) (h : w.ownsRow base 60 1 v l.length (u32V l)) : ∃ a cap, v = .slice a l.length cap ∧ l.length ≤ cap ∧ LV w a l := by
  rcases h.2 with ⟨hv, h0⟩ | ⟨g, cap, cur, hv, hbb, hg, hn, hc, hcs, _⟩
  · exact ⟨none, 0, by rw [hv, h0], by omega, hl, fun k hk => by omega⟩
  · subst hv
    refine ⟨_, _, rfl, hn, hl, fun k hk => ⟨g, 0, rfl, lt_of_block hg, ?_, hb _ (List.getElem_mem hk)⟩⟩
    rw [Nat.zero_add, h.cellAt k (by omega)]
    simp [u32V, hk]
end Go.Proofs.YtflnpcgnenhogaaDoor.ls
