/- Own lemmas, laid together. -/
import Derived.Test.YtflnpcgnenhogaaGreatDoorBk23
import Derived.Test.YtflnpcgnenhogaaGreatDoorBk16
import Derived.Test.YtflnpcgnenhogaaGreatDoorBk1
namespace Go.Proofs.YtflnpcgnenhogaaGreatDoor.ls
open Go.RowKit Go.Proofs.YtflnpcgnenhogaaGreatDoor.own Go.Proofs.YtflnpcgnenhogaaGreatDoor.bit

/-- a reader and rows beside it, made since w -/
def RE (x : Nat → Nat) (d t u : Nat) (w : World) (rb : Nat) (s : ByteArray) (a : Nat) (ks : List (Nat × Obj)) (W : World) : Prop :=
 ∃ x', Fr x x' (fun e => e = d ∨ e = t ∨ e = u) w W ∧ RdC x' d W rb s a ∧ ∀ p ∈ ks, x' p.1 = u ∧ W.heap[p.1]? = some p.2
/-- a head as bits tell it: degree, reference, the place behind -/
def hread (win : Nat) (B : Bits) (a : Nat) : Option (Nat × Nat × Nat) :=
 (rd .gam (B.drop a)).bind fun q => if 0 < q.1 ∧ 0 < win then (rd .una (B.drop (a + q.2))).bind fun q2 => if q.1 ≤ 65536 ∧ q2.1 ≤ win then some (q.1, q2.1, a + q.2 + q2.2) else none
  else if q.1 ≤ 65536 then some (q.1, 0, a + q.2) else none
end Go.Proofs.YtflnpcgnenhogaaGreatDoor.ls
namespace Go.Proofs.YtflnpcgnenhogaaGreatDoor.ls
open Go.RowKit Go.Proofs.YtflnpcgnenhogaaGreatDoor.own Go.Proofs.YtflnpcgnenhogaaGreatDoor.bit

/-- a taker in memory, its reader beside -/
def TK (x : Nat → Nat) (d t u : Nat) (w : World) (rb qb : Nat) (s : ByteArray) (a : Nat) (bad : Bool) (ks : List (Nat × Obj)) (W : World) : Prop :=
 RE x d t u w rb s a ((qb, .cells #[.pointer (some ⟨rb, 0, none⟩), .bool bad] 109 (0, 0)) :: ks) W ∧ ∀ p ∈ ks, p.1 ≠ qb
end Go.Proofs.YtflnpcgnenhogaaGreatDoor.ls
namespace Go.Proofs.YtflnpcgnenhogaaGreatDoor.ls
open Go.RowKit Go.Proofs.YtflnpcgnenhogaaGreatDoor.own Go.Proofs.YtflnpcgnenhogaaGreatDoor.bit

def FS (w : World) (wr : Option (Nat × Bits)) (rd : Option (Nat × ByteArray × Nat)) (ks : List (Nat × Obj)) (W : World) : Prop :=
 ∃ x, Fr (fun _ => 100) x (fun c => c < 50) w W ∧ (∀ q, wr = some q → WrC x 0 W q.1 q.2) ∧ (∀ q, rd = some q → RdC x 5 W q.1 q.2.1 q.2.2) ∧ ∀ p ∈ ks, x p.1 = 4 ∧ W.heap[p.1]? = some p.2
section
variable {w W : World} {wr : Option (Nat × Bits)} {rd : Option (Nat × ByteArray × Nat)} {ks : List (Nat × Obj)}
theorem FS.below (h : FS w wr rd ks W) : Below w.heap.size w W := by
 obtain ⟨x, hf, _⟩ := h
 exact fr_below hf
theorem FS.row (h : FS w wr rd ks W) {b : Nat} {o : Obj} (hm : (b, o) ∈ ks) : W.heap[b]? = some o := by
 obtain ⟨x, _, _, _, hk⟩ := h
 exact (hk _ hm).2
theorem FS.start (w : World) : FS w none none [] w := ⟨_, Fr.refl _ _ _, fun q h => (by cases h), fun q h => (by cases h), fun p hp => (by cases hp)⟩
theorem rdc_frame {x x' : Nat → Nat} {C : Nat → Prop} {d : Nat} {W W' : World} {rb a : Nat} {s : ByteArray} (h : RdC x d W rb s a) (f : Fr x x' C W W') (hC : ¬ C d) : RdC x' d W' rb s a := by
 obtain ⟨h1, h2, h3⟩ := h
 exact ⟨(f.old _ (lt_of_block h1) (by rw [h2]; exact hC)).trans h1, (f.col _ (lt_of_block h1)).trans h2, h3⟩
theorem rows_frame {x x' : Nat → Nat} {C : Nat → Prop} {W W' : World} (h : ∀ p ∈ ks, x p.1 = 4 ∧ W.heap[p.1]? = some p.2) (f : Fr x x' C W W') (hC : ¬ C 4) : ∀ p ∈ ks, x' p.1 = 4 ∧ W'.heap[p.1]? = some p.2 := fun p hp => by
 obtain ⟨h1, h2⟩ := h p hp
 exact ⟨(f.col _ (lt_of_block h2)).trans h1, (f.old _ (lt_of_block h2) (by rw [h1]; exact hC)).trans h2⟩
theorem FS.next (h : FS w wr rd ks W) {W' : World} (k : Below W.heap.size W W') : FS w wr rd ks W' := by
 obtain ⟨x, hf, hw, hr, hk⟩ := h
 have f2 : Fr x (paint x W.heap.size 6) (fun e => e = 6) W W' := Fr.of_below k rfl
 exact ⟨_, hf.trans (f2.mono (fun c hc => by show c < 50; omega)), fun q e => (hw q e).frame f2 (by decide), fun q e => rdc_frame (hr q e) f2 (by decide), rows_frame hk f2 (by decide)⟩
theorem FS.add (h : FS w wr rd ks W) (row : Array Value) (T : TypeId) : FS w wr rd ((W.heap.size, .cells row T (0, 0)) :: ks) (W.alloc (.cells row T)) := by
 obtain ⟨x, hf, hw, hr, hk⟩ := h
 have k : Below W.heap.size W (W.alloc (.cells row T)) := (Below.refl _ _).alloc (Nat.le_refl _) _
 have f2 : Fr x (paint x W.heap.size 4) (fun e => e = 4) W (W.alloc (.cells row T)) := Fr.of_below k rfl
 refine ⟨_, hf.trans (f2.mono (fun c hc => by show c < 50; omega)), fun q e => (hw q e).frame f2 (by decide), fun q e => rdc_frame (hr q e) f2 (by decide), fun p hp => ?_⟩
 rcases List.mem_cons.1 hp with rfl | hp
 ·exact ⟨paint_new (Nat.le_refl _), heap_alloc_new W _⟩
 ·obtain ⟨h1, h2⟩ := hk p hp
  exact ⟨(paint_old (lt_of_block h2)).trans h1, (k.block _ (lt_of_block h2)).trans h2⟩
theorem FS.new (h : FS w none none ks W) :
  Calls Tryz.prog 58 #[] W fun e w' => ∃ wb : Nat, e = .returned (.pointer (some ⟨wb, 0, none⟩)) ∧ FS w (some (wb, [])) none ks w' := by
 obtain ⟨x, hf, -, -, hk⟩ := h
 refine (new_any x 0 W).mono ?_
 rintro e w' ⟨wb, x', rfl, f2, hw, _⟩
 exact ⟨wb, rfl, x', hf.trans (f2.mono (fun c hc => by show c < 50; omega)), fun q e => by cases e; exact hw, fun q e => (by cases e), rows_frame hk f2 (by decide)⟩
theorem FS.text {wb : Nat} {l : Bits} (h : FS w (some (wb, l)) rd ks W) :
  Calls Tryz.prog 60 #[.pointer (some ⟨wb, 0, none⟩)] W fun e w' => e = .returned (.tuple #[.string (txt (packN l)), .int .i64 0]) ∧ W = w' := by
 obtain ⟨x, _, hw, _⟩ := h
 exact text_any x 0 W wb l (hw _ rfl)
theorem FS.len {wb : Nat} {l : Bits} (h : FS w (some (wb, l)) rd ks W) :
  Calls Tryz.prog 61 #[.pointer (some ⟨wb, 0, none⟩)] W fun e w' => e = .returned (.int .i64 (l.length : Int)) ∧ W = w' := by
 obtain ⟨x, _, hw, _⟩ := h
 exact len_any x 0 W wb l (hw _ rfl)
end
/-- a row of the law's own is a list that is only read -/
theorem lv_own {w : World} {base : Nat} {v : Value} {l : List Nat} (hl : l.length ≤ 4611686018427387903) (hb : ∀ u ∈ l, u < 4294967296) (h : w.ownsRow base 77 1 v l.length (u32V l)) : ∃ a cap, v = .slice a l.length cap ∧ l.length ≤ cap ∧ LV w a l := by
 rcases h.2 with ⟨hv, h0⟩ | ⟨g, cap, cur, hv, hbb, hg, hn, hc, hcs, _⟩
 ·exact ⟨none, 0, by rw [hv, h0], by omega, hl, fun k hk => by omega⟩
 ·subst hv
  refine ⟨_, _, rfl, hn, hl, fun k hk => ⟨g, 0, rfl, lt_of_block hg, ?_, hb _ (List.getElem_mem hk)⟩⟩
  rw [Nat.zero_add, h.cellAt k (by omega)]
  simp [u32V, hk]
end Go.Proofs.YtflnpcgnenhogaaGreatDoor.ls
namespace Go.Proofs.YtflnpcgnenhogaaGreatDoor.ls
open Go.RowKit Go.Proofs.YtflnpcgnenhogaaGreatDoor.own Go.Proofs.YtflnpcgnenhogaaGreatDoor.bit

/-- a taker, a list of its call's own, rows beside -/
def TR (x : Nat → Nat) (d t u : Nat) (w : World) (rb qb : Nat) (s : ByteArray) (a : Nat) (bad : Bool) (ks : List (Nat × Obj)) (l : List Nat) (v : Value) (W : World) : Prop :=
 W.ownsRow 0 77 1 v l.length (u32V l) ∧ ∃ ks', (∀ g, v.ownBlock = some g → ∃ o, (g, o) ∈ ks') ∧ (∀ p ∈ ks', some p.1 = v.ownBlock) ∧ (∀ p ∈ ks, some p.1 ≠ v.ownBlock) ∧ TK x d t u w rb qb s a bad (ks' ++ ks) W
section
variable {x : Nat → Nat} {d t u : Nat} {w W : World} {rb qb a : Nat} {s : ByteArray} {bad : Bool} {ks : List (Nat × Obj)} {l : List Nat} {v : Value}
end
/-- append of a list that is only read, empty or not -/
theorem wpList_append_lv {P : Program} (w : World) {ops : Array Oper} {rest : List Oper} {o : Oper} {a : Act} {Q : Exit → Act → World → Prop} (hgd : o.guard = none) (s x : Operand) (t : TypeId)
  (ho : o.op = .call { callee := .builtin .append, args := #[s, x], argTypes := #[t, t] })
  (base : Nat) (e : TypeId) (i : TypeInfo) (z : Value) (bytes : Nat) (ht : P.underlying t = some (.slice e)) (hi : P.info? e = some i) (hz : i.zero = some z)
  (hsize : i.size = 1) (hby : i.bytes = bytes) (hzs : z.cells.size = 1)
  (v : Value) (n : Nat) (xs : List Value) (hs : a.eval s = v) (hown : w.ownsRow base e 1 v n xs) (ao : Option Addr) (m c : Nat) (l : List Nat) (hx : a.eval x = .slice ao m c) (hm : l.length = m) (hLV : LV w ao l)
  (h63 : n + m ≤ maxLen) (hbytes : (n + m) * bytes ≤ 140737488355328) (hbase : base ≤ w.heap.size)
  (h : ∀ v' w', w'.ownsRow base e 1 v' (n + m) (xs ++ u32V l) → w.grownBy w' v.ownBlock → (v'.ownBlock = v.ownBlock ∨ v'.ownBlock = some w.heap.size) → wpList P ops Q rest (a.put o.dst v') w') :
  wpList P ops Q (o :: rest) a w := by
 by_cases h0 : 0 < m
 ·obtain ⟨g, of, rfl⟩ := hLV.addr (by omega)
  have hc := hLV.cells m
  rw [List.take_of_length_le (by omega)] at hc
  exact wpList_append_at w hgd s x t ho base e i z 1 bytes ht hi hz hsize hby hzs (by decide) v n xs hs hown ⟨g, of, none⟩ m c (u32V l) hx (by rw [u32V, List.length_map, hm, Nat.mul_one]) hc (u32_one l) h63 hbytes hbase h0 h
 ·obtain rfl : m = 0 := by omega
  obtain rfl : l = [] := List.eq_nil_of_length_eq_zero hm
  obtain ⟨av, cv, hv, hle⟩ := own_slice hown
  have hsrc : Src P i.size t (.slice ao 0 c) 0 [] w := by
   cases ao with
   | none => exact Src.ofNil w ht c
   | some ad => exact Src.ofSlice w ht _ 0 c [] (by simp) (fun j u hu => by simp at hu) (fun u hu => by cases hu)
  refine wpList_plain hgd fun K hK => ?_
  have hr := run_append_nothing (P := P) w t t o.type e i ht hi av n cv hle (.slice ao 0 c) hsrc
  unfold Oper.wp execOp
  subst hv
  simp only [ho, resolve, invoke, builtin, Sem.run_bind, Sem.run_pure, Result.andThen_ok, List.map_toArray, List.map_cons, List.map_nil, hs, hx, hr]
  refine hK _ _ (h _ _ ?_ ⟨rfl, rfl, rfl, Nat.le_refl _, fun _ _ _ => rfl⟩ (.inl rfl))
  show w.ownsRow base e 1 _ (n + 0) (xs ++ [])
  rw [List.append_nil]
  exact hown
end Go.Proofs.YtflnpcgnenhogaaGreatDoor.ls
namespace Go.Proofs.YtflnpcgnenhogaaGreatDoor.ls
open Go.RowKit Go.Proofs.YtflnpcgnenhogaaGreatDoor.own Go.Proofs.YtflnpcgnenhogaaGreatDoor.bit

theorem LV.nil {w : World} {a : Option Addr} : LV w a [] := ⟨Nat.zero_le _, fun i h => by cases h⟩
theorem LV.take {w : World} {a : Option Addr} {l : List Nat} (h : LV w a l) (k : Nat) : LV w a (l.take k) := by
 refine ⟨by rw [List.length_take]; have := h.1; omega, fun i hi => ?_⟩
 rw [List.length_take] at hi
 obtain ⟨g, o, h1, h2, h3, h4⟩ := h.2 i (by omega)
 exact ⟨g, o, h1, h2, by rw [List.getElem_take]; exact h3, by rw [List.getElem_take]; exact h4⟩
end Go.Proofs.YtflnpcgnenhogaaGreatDoor.ls
