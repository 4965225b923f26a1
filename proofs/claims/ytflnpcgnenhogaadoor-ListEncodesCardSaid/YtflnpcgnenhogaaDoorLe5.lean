/- Own lemmas, laid together. -/
import Derived.Test.YtflnpcgnenhogaaDoorLe4
import Derived.Deep.RegionHeld3
import Derived.Defers
namespace Go.Proofs.YtflnpcgnenhogaaDoor.ls
open Go.RowKit Go.Proofs.YtflnpcgnenhogaaDoor.own Go.Proofs.YtflnpcgnenhogaaDoor.bit

/-- the package's two codes lie where they were laid -/
structure GL (w : World) : Prop where
  g0 : w.cell? ⟨0, 0, none⟩ = some (.int .u8 1)
  g1 : w.cell? ⟨0, 1, none⟩ = some (.int .u64 0)
  u0 : w.cell? ⟨1, 0, none⟩ = some (.int .u8 0)
  u1 : w.cell? ⟨1, 1, none⟩ = some (.int .u64 0)
theorem GL.below {w W : World} (h : GL w) (k : Below w.heap.size w W) : GL W :=
  ⟨(k.cell (World.block_lt_of_cell? _ _ h.g0)).trans h.g0, (k.cell (World.block_lt_of_cell? _ _ h.g1)).trans h.g1, (k.cell (World.block_lt_of_cell? _ _ h.u0)).trans h.u0, (k.cell (World.block_lt_of_cell? _ _ h.u1)).trans h.u1⟩

/-- the numbers so far, and rows beside them, made since w -/
def NS0 (w : World) (lb : Nat) (L : List (Cd × Nat)) (ks : List (Nat × Obj)) (W : World) : Prop :=
  ∃ x, Fr (fun _ => 100) x (fun c => c < 50) w W ∧ VR x 1 87 82 3 W lb L.length (nmV L) ∧ ∀ p ∈ ks, x p.1 = 49 ∧ W.heap[p.1]? = some p.2
/-- and the runs, what is left -/
def NS (w : World) (lb fb rb : Nat) (L : List (Cd × Nat)) (s : List Nat × (List Nat × Nat)) (ks : List (Nat × Obj)) (W : World) : Prop :=
  ∃ x, Fr (fun _ => 100) x (fun c => c < 50) w W ∧ VR x 1 87 82 3 W lb L.length (nmV L) ∧ MSt x 2 3 W fb rb s ∧ ∀ p ∈ ks, x p.1 = 49 ∧ W.heap[p.1]? = some p.2
theorem fr_below {x : Nat → Nat} {w W : World} (hf : Fr (fun _ => 100) x (fun c => c < 50) w W) : Below w.heap.size w W :=
  ⟨hf.os, hf.tape, hf.output, hf.size, fun b hb => hf.old b hb (by show ¬ (100 : Nat) < 50; decide)⟩
theorem NS.ns0 {w W : World} {lb fb rb : Nat} {L : List (Cd × Nat)} {s : List Nat × (List Nat × Nat)} {ks : List (Nat × Obj)} (h : NS w lb fb rb L s ks W) : NS0 w lb L ks W := by
  obtain ⟨x, h1, h2, _, h4⟩ := h
  exact ⟨x, h1, h2, h4⟩
theorem NS0.below {w W : World} {lb : Nat} {L : List (Cd × Nat)} {ks : List (Nat × Obj)} (h : NS0 w lb L ks W) : Below w.heap.size w W := by
  obtain ⟨x, hf, _⟩ := h
  exact fr_below hf
theorem NS0.row {w W : World} {lb : Nat} {L : List (Cd × Nat)} {ks : List (Nat × Obj)} (h : NS0 w lb L ks W) {b : Nat} {o : Obj} (hm : (b, o) ∈ ks) : W.heap[b]? = some o := by
  obtain ⟨x, _, _, hk⟩ := h
  exact (hk _ hm).2
/-- the answer: the row of numbers -/
def NumsP (w : World) (L : List (Cd × Nat)) (e : Ending) (w' : World) : Prop := ∃ v, e = .returned v ∧ w'.ownsRow w.heap.size 87 3 v L.length (nmV L) ∧ Below w.heap.size w w'
theorem NS0.done {w W : World} {lb : Nat} {L : List (Cd × Nat)} {ks : List (Nat × Obj)} (h : NS0 w lb L ks W) : ∃ v, W.cell? ⟨lb, 0, none⟩ = some v ∧ NumsP w L (.returned v) W := by
  obtain ⟨x, hf, ⟨v, h0, hx, ho, hg⟩, _⟩ := h
  refine ⟨v, by rw [cell_of_row _ _ _ _ _ _ h0]; rfl, v, rfl, own_rebase ho (fun g e => ?_), fr_below hf⟩
  rcases Nat.lt_or_ge g w.heap.size with h1 | h1
  · have := hf.col g h1
    have h2 := (hg g e).1
    omega
  · exact h1
theorem NS0.put {w W : World} {lb : Nat} {L : List (Cd × Nat)} {ks : List (Nat × Obj)} (h : NS0 w lb L ks W) (k : Cd) (v : Nat) (hv : v < 9223372036854775808) (hl : L.length ≤ 1000000000) :
    Calls Tryd.prog 54 #[cdV k, .int .i64 (v : Int), .pointer (some ⟨lb, 0, none⟩)] W fun e w' => e = .returned (.tuple #[]) ∧ NS0 w lb (L ++ [(k, v)]) ks w' := by
  obtain ⟨x, hf, hv1, hk⟩ := h
  refine (put_any x 1 W lb L k v hv hl hv1).mono ?_
  rintro e w' ⟨rfl, x', f2, h2⟩
  refine ⟨rfl, x', hf.trans (f2.mono (fun c hc => by show c < 50; omega)), by rw [List.length_append]; exact h2, fun p hp => ?_⟩
  obtain ⟨h3, h4⟩ := hk p hp
  exact ⟨(f2.col _ (lt_of_block h4)).trans h3, (f2.old _ (lt_of_block h4) (by show ¬ x p.1 = 1; rw [h3]; decide)).trans h4⟩
theorem NS.put {w W : World} {lb fb rb : Nat} {L : List (Cd × Nat)} {s : List Nat × (List Nat × Nat)} {ks : List (Nat × Obj)} (h : NS w lb fb rb L s ks W) (k : Cd) (v : Nat) (hv : v < 9223372036854775808) (hl : L.length ≤ 1000000000) :
    Calls Tryd.prog 54 #[cdV k, .int .i64 (v : Int), .pointer (some ⟨lb, 0, none⟩)] W fun e w' => e = .returned (.tuple #[]) ∧ NS w lb fb rb (L ++ [(k, v)]) s ks w' ∧ w'.cell? ⟨rb, 0, none⟩ = W.cell? ⟨rb, 0, none⟩ := by
  obtain ⟨x, hf, hv1, ⟨hm1, hm2⟩, hk⟩ := h
  refine (put_any x 1 W lb L k v hv hl hv1).mono ?_
  rintro e w' ⟨rfl, x', f2, h2⟩
  have hrow : w'.cell? ⟨rb, 0, none⟩ = W.cell? ⟨rb, 0, none⟩ := by
    obtain ⟨v0, h0, hx0, _⟩ := hm2
    exact World.cell?_of_block (f2.old rb (lt_of_block h0) (by show ¬ x rb = 1; rw [hx0]; decide))
  refine ⟨rfl, ⟨x', hf.trans (f2.mono (fun c hc => by show c < 50; omega)), by rw [List.length_append]; exact h2, ⟨hm1.frame f2 (by decide), hm2.frame f2 (by decide)⟩, fun p hp => ?_⟩, hrow⟩
  obtain ⟨h3, h4⟩ := hk p hp
  exact ⟨(f2.col _ (lt_of_block h4)).trans h3, (f2.old _ (lt_of_block h4) (by show ¬ x p.1 = 1; rw [h3]; decide)).trans h4⟩
/-- a call that only makes new memory -/
theorem NS.next {w W W' : World} {lb fb rb : Nat} {L : List (Cd × Nat)} {s : List Nat × (List Nat × Nat)} {ks : List (Nat × Obj)} (h : NS w lb fb rb L s ks W) (k : Below W.heap.size W W') : NS w lb fb rb L s ks W' := by
  obtain ⟨x, hf, hv1, ⟨hm1, hm2⟩, hk⟩ := h
  have f2 : Fr x (paint x W.heap.size 49) (fun e => e = 49) W W' := Fr.of_below k rfl
  refine ⟨_, hf.trans (f2.mono (fun c hc => by show c < 50; omega)), hv1.frame f2 (by decide), ⟨hm1.frame f2 (by decide), hm2.frame f2 (by decide)⟩, fun p hp => ?_⟩
  obtain ⟨h3, h4⟩ := hk p hp
  exact ⟨(f2.col _ (lt_of_block h4)).trans h3, (k.block _ (lt_of_block h4)).trans h4⟩
/-- rows that are new -/
theorem NS.more {w W W' : World} {lb fb rb : Nat} {L : List (Cd × Nat)} {s : List Nat × (List Nat × Nat)} {ks : List (Nat × Obj)} (h : NS w lb fb rb L s ks W) (k : Below W.heap.size W W') (js : List (Nat × Obj)) (hj : ∀ p ∈ js, W.heap.size ≤ p.1 ∧ W'.heap[p.1]? = some p.2) : NS w lb fb rb L s (js ++ ks) W' := by
  obtain ⟨x, hf, hv1, ⟨hm1, hm2⟩, hk⟩ := h
  have f2 : Fr x (paint x W.heap.size 49) (fun e => e = 49) W W' := Fr.of_below k rfl
  refine ⟨_, hf.trans (f2.mono (fun c hc => by show c < 50; omega)), hv1.frame f2 (by decide), ⟨hm1.frame f2 (by decide), hm2.frame f2 (by decide)⟩, fun p hp => ?_⟩
  rcases List.mem_append.1 hp with hp | hp
  · obtain ⟨h1, h2⟩ := hj p hp
    exact ⟨paint_new h1, h2⟩
  · obtain ⟨h3, h4⟩ := hk p hp
    exact ⟨(paint_old (lt_of_block h4)).trans h3, (k.block _ (lt_of_block h4)).trans h4⟩
theorem NS.fewer {w W : World} {lb fb rb : Nat} {L : List (Cd × Nat)} {s : List Nat × (List Nat × Nat)} {ks js : List (Nat × Obj)} (h : NS w lb fb rb L s ks W) (hj : ∀ p ∈ js, p ∈ ks) : NS w lb fb rb L s js W := by
  obtain ⟨x, h1, h2, h3, hk⟩ := h
  exact ⟨x, h1, h2, h3, fun p hp => hk p (hj p hp)⟩
def endV : Option Nat → Value
  | none => .int .i64 (-1)
  | some e => .int .i64 (e : Int)
/-- the beginning: the first number -/
theorem NS0.start {w W : World} {pv : Array Value} {n : Nat} (hW : ((w.alloc (.cells pv 38)).alloc (.cells #[.int .u8 1, .int .u64 0, .int .u64 (n : Int)] 87)).alloc (.cells #[.slice (some ⟨w.heap.size + 1, 0, none⟩) 1 1] 82) = W) :
    NS0 w (w.heap.size + 1 + 1) [(.gam, n)] [(w.heap.size, .cells pv 38 (0, 0))] W := by
  obtain ⟨r1, r2, r3, kb⟩ := rows3 hW
  refine ⟨fun b => if b < w.heap.size then 100 else if b = w.heap.size then 49 else 1, ⟨kb.os, kb.tape, kb.output, kb.size, fun b hb => if_pos hb, fun b h1 _ => ?_, fun b hb _ => kb.block b hb⟩, ⟨_, r3, ?_, ⟨rfl, .inr ⟨w.heap.size + 1, 1, _, rfl, Nat.zero_le _, r2, Nat.le_refl _, by decide, rfl, rfl⟩⟩, fun g hg => ?_⟩, fun p hp => ?_⟩
  · show (if b < w.heap.size then 100 else if b = w.heap.size then 49 else 1) < 50
    rw [if_neg (by omega)]
    split <;> decide
  · show (if w.heap.size + 1 + 1 < w.heap.size then 100 else if w.heap.size + 1 + 1 = w.heap.size then 49 else 1) = 1
    rw [if_neg (by omega), if_neg (by omega)]
  · have : g = w.heap.size + 1 := by
      have h2 : some (w.heap.size + 1) = some g := hg
      injection h2 with h2; exact h2.symm
    subst this
    refine ⟨?_, by omega⟩
    show (if w.heap.size + 1 < w.heap.size then 100 else if w.heap.size + 1 = w.heap.size then 49 else 1) = 1
    rw [if_neg (by omega), if_neg (by omega)]
  · rcases List.mem_cons.1 hp with rfl | hp
    · refine ⟨?_, r1⟩
      show (if w.heap.size < w.heap.size then 100 else if w.heap.size = w.heap.size then 49 else 1) = 49
      rw [if_neg (by omega), if_pos rfl]
    · cases hp
/-- the runs and what is left begin -/
theorem NS0.more {w W W' : World} {lb : Nat} {L : List (Cd × Nat)} {ks : List (Nat × Obj)} (h : NS0 w lb L ks W) (hW : ((W.alloc (.cells #[.int .i64 0] 3)).alloc (.cells #[.slice (some ⟨W.heap.size, 0, none⟩) 1 1] 50)).alloc (.cells #[.slice none 0 0] 29) = W') :
    NS w lb (W.heap.size + 1 + 1) (W.heap.size + 1) L ([], ([], 0)) ks W' := by
  obtain ⟨x, hf, hv1, hk⟩ := h
  obtain ⟨r1, r2, r3, kb⟩ := rows3 hW
  have f2 : Fr x (fun b => if b < W.heap.size then x b else if b = W.heap.size + 1 + 1 then 2 else 3) (fun e => e = 2 ∨ e = 3) W W' := ⟨kb.os, kb.tape, kb.output, kb.size, fun b hb => if_pos hb, fun b h1 _ => by
    show (if b < W.heap.size then x b else if b = W.heap.size + 1 + 1 then 2 else 3) = 2 ∨ (if b < W.heap.size then x b else if b = W.heap.size + 1 + 1 then 2 else 3) = 3
    rw [if_neg (by omega)]
    split
    · exact .inl rfl
    · exact .inr rfl, fun b hb _ => kb.block b hb⟩
  refine ⟨_, hf.trans (f2.mono (fun c hc => by show c < 50; omega)), hv1.frame f2 (by omega), ⟨⟨_, r3, ?_, World.ownsRow_nil _ _ _ _, fun g hg => by cases hg⟩, ⟨_, r2, ?_, ⟨rfl, .inr ⟨W.heap.size, 1, _, rfl, Nat.zero_le _, r1, Nat.le_refl _, by decide, rfl, rfl⟩⟩, fun g hg => ?_⟩⟩, fun p hp => ?_⟩
  · show (if W.heap.size + 1 + 1 < W.heap.size then _ else if W.heap.size + 1 + 1 = W.heap.size + 1 + 1 then 2 else 3) = 2
    rw [if_neg (by omega), if_pos rfl]
  · show (if W.heap.size + 1 < W.heap.size then _ else if W.heap.size + 1 = W.heap.size + 1 + 1 then 2 else 3) = 3
    rw [if_neg (by omega), if_neg (by omega)]
  · have : g = W.heap.size := by
      have h2 : some (W.heap.size) = some g := hg
      injection h2 with h2; exact h2.symm
    subst this
    refine ⟨?_, by omega⟩
    show (if W.heap.size < W.heap.size then _ else if W.heap.size = W.heap.size + 1 + 1 then 2 else 3) = 3
    rw [if_neg (by omega), if_neg (by omega)]
  · obtain ⟨h3, h4⟩ := hk p hp
    exact ⟨(f2.col _ (lt_of_block h4)).trans h3, (kb.block _ (lt_of_block h4)).trans h4⟩
/-- the two lists are met -/
theorem NS.each {w W : World} {lb fb rb : Nat} {L : List (Cd × Nat)} {ks : List (Nat × Obj)} (h : NS w lb fb rb L ([], ([], 0)) ks W) (a : Option Addr) (l : List Nat) (cap : Nat) (b : Option Addr) (m : List Nat) (capb : Nat) (hc : l.length ≤ cap) (hcb : m.length ≤ capb) (hl : l.length + m.length ≤ 131072) (hA : LV w a l) (hB : LV w b m) :
    Calls Tryd.prog 55 #[.slice a l.length cap, .slice b m.length capb, .func (.func 56) #[] #[.pointer (some ⟨fb, 0, none⟩), .pointer (some ⟨rb, 0, none⟩)]] W fun e w' =>
      e = .returned (.tuple #[]) ∧ NS w lb fb rb L (eachF l m ([], ([], 0))) ks w' := by
  obtain ⟨x, hf, hv1, hM, hk⟩ := h
  have lvx : ∀ (a : Option Addr) (l : List Nat), LV w a l → LVx x (fun e => e = 2 ∨ e = 3) W a l := fun a l h => ⟨h.1, fun i hi => by
    obtain ⟨g, o, h1, h2, h3, h4⟩ := h.2 i hi
    refine ⟨g, o, h1, Nat.lt_of_lt_of_le h2 hf.size, ((fr_below hf).cell (p := ⟨g, o + i, none⟩) h2).trans h3, h4, ?_⟩
    show ¬ (x g = 2 ∨ x g = 3)
    rw [hf.col g h2]
    decide⟩
  refine (each_any x 2 3 (by decide) W fb rb a l cap b m capb hc hcb hl (lvx a l hA) (lvx b m hB) hM).mono ?_
  rintro e w' ⟨rfl, x', f2, h2⟩
  refine ⟨rfl, x', hf.trans (f2.mono (fun c hc => by show c < 50; omega)), hv1.frame f2 (by decide), h2, fun p hp => ?_⟩
  obtain ⟨h3, h4⟩ := hk p hp
  exact ⟨(f2.col _ (lt_of_block h4)).trans h3, (f2.old _ (lt_of_block h4) (by show ¬ (x p.1 = 2 ∨ x p.1 = 3); rw [h3]; decide)).trans h4⟩
/-- the runs, and what is left, as they lie -/
theorem NS.runs {w W : World} {lb fb rb : Nat} {L : List (Cd × Nat)} {s : List Nat × (List Nat × Nat)} {ks : List (Nat × Obj)} (h : NS w lb fb rb L s ks W) :
    ∃ g cap, W.cell? ⟨rb, 0, none⟩ = some (.slice (some ⟨g, 0, none⟩) (s.2.1.length + 1) cap) ∧ s.2.1.length + 1 ≤ cap ∧ g < W.heap.size ∧ ∀ j (hj : j < s.2.1.length), W.cell? ⟨g, j, none⟩ = some (.int .i64 (s.2.1[j] : Int)) := by
  obtain ⟨x, _, _, ⟨_, ⟨v, h0, _, ho, _⟩⟩, _⟩ := h
  have c0 : W.cell? ⟨rb, 0, none⟩ = some v := by rw [cell_of_row _ _ _ _ _ _ h0]; rfl
  rcases ho.2 with ⟨_, h2⟩ | ⟨g, cap, cur, rfl, _, hcell, hn, _⟩
  · omega
  · refine ⟨g, cap, c0, hn, lt_of_block hcell, fun j hj => ?_⟩
    rw [ho.cellAt j (by omega)]
    unfold intV
    rw [List.getElem?_map, List.getElem?_append_left hj, List.getElem?_eq_getElem hj]
    rfl
theorem NS.left {w W : World} {lb fb rb : Nat} {L : List (Cd × Nat)} {s : List Nat × (List Nat × Nat)} {ks : List (Nat × Obj)} (h : NS w lb fb rb L s ks W) (hs : ∀ v ∈ s.1, v < 4294967296) (hz : s.1.length ≤ 1000000) :
    ∃ a cap, W.cell? ⟨fb, 0, none⟩ = some (.slice a s.1.length cap) ∧ s.1.length ≤ cap ∧ LV W a s.1 := by
  obtain ⟨x, _, _, ⟨⟨v, h0, _, ho, _⟩, _⟩, _⟩ := h
  have c0 : W.cell? ⟨fb, 0, none⟩ = some v := by rw [cell_of_row _ _ _ _ _ _ h0]; rfl
  rcases ho.2 with ⟨rfl, h2⟩ | ⟨g, cap, cur, rfl, _, hcell, hn, _⟩
  · refine ⟨none, 0, by rw [h2]; exact c0, by omega, by omega, fun i hi => by omega⟩
  · refine ⟨_, cap, c0, hn, by omega, fun i hi => ⟨g, 0, rfl, lt_of_block hcell, ?_, hs _ (List.getElem_mem hi)⟩⟩
    rw [Nat.zero_add, ho.cellAt i (by omega)]
    unfold u32V
    rw [List.getElem?_map, List.getElem?_eq_getElem hi]
    rfl
theorem rnm_snoc : ∀ (i : Nat) (I : List Nat) (n : Nat), rnm i (I ++ [n]) = rnm i I ++ [n - min (i + I.length) 1]
  | i, [], n => by simp [rnm]
  | i, m :: I, n => by
    show (m - min i 1) :: rnm (i + 1) (I ++ [n]) = _
    rw [rnm_snoc (i + 1) I n]
    show _ = (m - min i 1) :: rnm (i + 1) I ++ [n - min (i + (I.length + 1)) 1]
    rw [show i + 1 + I.length = i + (I.length + 1) by omega]
    rfl
theorem sum_get : ∀ (l : List Nat) (i : Nat) (h : i < l.length), l[i] ≤ sum l
  | [], i, h => by simp at h
  | n :: l, 0, _ => by show n ≤ n + sum l; omega
  | n :: l, i + 1, h => by
    have := sum_get l i (by simpa using h)
    show l[i]'(by simpa using h) ≤ n + sum l
    omega
theorem rnm_length : ∀ (i : Nat) (I : List Nat), (rnm i I).length = I.length
  | _, [] => rfl
  | i, _ :: I => by rw [rnm, List.length_cons, rnm_length (i + 1) I, List.length_cons]
/-- where rows end -/
def lend : Option Nat → List (Nat × Nat) → Option Nat
  | e, [] => e
  | _, (f, n) :: r => lend (some (f + n - 1)) r
theorem lend_snoc : ∀ (e : Option Nat) (l : List (Nat × Nat)) (f n : Nat), lend e (l ++ [(f, n)]) = some (f + n - 1)
  | _, [], _, _ => rfl
  | _, (a, b) :: l, f, n => lend_snoc (some (a + b - 1)) l f n
theorem lnm_cons (x itv : Nat) (e : Option Nat) (f n : Nat) (r : List (Nat × Nat)) : lnm x itv e ((f, n) :: r) = (match e with | none => zig ((f : Int) - x) | some e => f - e - 2) :: (n - itv) :: lnm x itv (some (f + n - 1)) r := by cases e <;> rfl
def frstN (x : Nat) (o : Option Nat) (f : Nat) : Nat :=
  match o with
  | none => zig ((f : Int) - x)
  | some e => f - e - 2
def resN (x : Nat) (o : Option Nat) (v : Nat) : Nat :=
  match o with
  | none => zig ((v : Int) - x)
  | some u => v - u - 1
theorem lnm_snoc (x itv : Nat) : ∀ (e : Option Nat) (l : List (Nat × Nat)) (f n : Nat), lnm x itv e (l ++ [(f, n)]) = lnm x itv e l ++ [frstN x (lend e l) f, n - itv]
  | e, [], f, n => by
    rw [List.nil_append, lnm_cons]
    have h0 : ∀ e : Option Nat, lnm x itv e [] = [] := fun e => by cases e <;> rfl
    rw [h0, h0]
    rfl
  | e, (a, b) :: l, f, n => by
    rw [List.cons_append, lnm_cons, lnm_cons, lnm_snoc x itv (some (a + b - 1)) l f n]
    rfl
theorem lnm_length (x itv : Nat) : ∀ (e : Option Nat) (l : List (Nat × Nat)), (lnm x itv e l).length = 2 * l.length
  | none, [] => rfl
  | some _, [] => rfl
  | e, (a, b) :: l => by
    rw [lnm_cons, List.length_cons, List.length_cons, lnm_length x itv (some (a + b - 1)) l, List.length_cons]
    omega
theorem Apart.get {itv : Nat} : ∀ {e : Option Nat} {l : List (Nat × Nat)} (_ : Apart itv e l) (i : Nat) (hi : i < l.length), itv ≤ l[i].2 ∧ 0 < l[i].2 ∧ l[i].1 + l[i].2 ≤ 65536 ∧ ∀ e', lend e (l.take i) = some e' → e' + 2 ≤ l[i].1
  | none, (f, n) :: r, h, 0, _ => ⟨h.1, h.2.1, h.2.2.1, fun e' he => by cases he⟩
  | some e, (f, n) :: r, h, 0, _ => ⟨h.2.1, h.2.2.1, h.2.2.2.1, fun e' he => by cases he; exact h.1⟩
  | none, (f, n) :: r, h, i + 1, hi => Apart.get (l := r) h.2.2.2 i (by simpa using hi)
  | some e, (f, n) :: r, h, i + 1, hi => Apart.get (l := r) h.2.2.2.2 i (by simpa using hi)
theorem znm_snoc (x : Nat) : ∀ (e : Option Nat) (l : List Nat) (v : Nat), znm x e (l ++ [v]) = znm x e l ++ [resN x (match l.getLast? with | some u => some u | none => e) v]
  | none, [], v => rfl
  | some e, [], v => rfl
  | none, a :: l, v => by
    show zig ((a : Int) - x) :: znm x (some a) (l ++ [v]) = zig ((a : Int) - x) :: znm x (some a) l ++ _
    rw [znm_snoc x (some a) l v, List.getLast?_cons]
    cases l.getLast? <;> rfl
  | some e, a :: l, v => by
    show (a - e - 1) :: znm x (some a) (l ++ [v]) = (a - e - 1) :: znm x (some a) l ++ _
    rw [znm_snoc x (some a) l v, List.getLast?_cons]
    cases l.getLast? <;> rfl
theorem znm_length (x : Nat) : ∀ (e : Option Nat) (l : List Nat), (znm x e l).length = l.length
  | none, [] => rfl
  | some _, [] => rfl
  | none, a :: l => by show (znm x (some a) l).length + 1 = _; rw [znm_length x (some a) l]; rfl
  | some e, a :: l => by show (znm x (some a) l).length + 1 = _; rw [znm_length x (some a) l]; rfl

theorem apart_len {itv : Nat} : ∀ (e : Option Nat) (l : List (Nat × Nat)), Apart itv e l → l.length ≤ sum (l.map (·.2))
  | _, [], _ => Nat.zero_le _
  | none, (f, n) :: r, h => by
    have := apart_len _ r h.2.2.2
    have h2 := h.2.1
    show r.length + 1 ≤ n + sum (r.map (·.2))
    omega
  | some e, (f, n) :: r, h => by
    have := apart_len _ r h.2.2.2.2
    have h2 := h.2.2.1
    show r.length + 1 ≤ n + sum (r.map (·.2))
    omega
theorem i64_diff (v x : Nat) (h1 : v < 65536) (h2 : x < 65536) : IntKind.i64.wrap ((v : Int) - (x : Int)) = (v : Int) - (x : Int) := IntWalk.i64_in _ (by omega)
/-- pairs of numbers that are only read -/
def PV (W : World) (a : Option Addr) (L : List (Nat × Nat)) : Prop := ∀ i (h : i < L.length), ∃ g, a = some ⟨g, 0, none⟩ ∧ W.cell? ⟨g, i * 2, none⟩ = some (.int .i64 (L[i].1 : Int)) ∧ W.cell? ⟨g, i * 2 + 1, none⟩ = some (.int .i64 (L[i].2 : Int))
theorem prV_get : ∀ (L : List (Nat × Nat)) (i : Nat) (h : i < L.length), (prV L)[i * 2]? = some (.int .i64 (L[i].1 : Int)) ∧ (prV L)[i * 2 + 1]? = some (.int .i64 (L[i].2 : Int))
  | q :: L, 0, _ => ⟨rfl, rfl⟩
  | q :: L, i + 1, h => by
    have := prV_get L i (by simpa using h)
    have e : prV (q :: L) = .int .i64 (q.1 : Int) :: .int .i64 (q.2 : Int) :: prV L := rfl
    rw [e, show (i + 1) * 2 = i * 2 + 1 + 1 by omega, List.getElem?_cons_succ, List.getElem?_cons_succ, List.getElem?_cons_succ, List.getElem?_cons_succ]
    exact this
/-- the rows that rows made stand from now on -/
theorem NS.rows {w W W' : World} {lb fb rb : Nat} {L : List (Cd × Nat)} {s : List Nat × (List Nat × Nat)} {ks : List (Nat × Obj)} (h : NS w lb fb rb L s ks W) {P : List (Nat × Nat)} {R : List Nat} {v1 v2 : Value} (k : RW2 W P v1 R v2 W') (hR : ∀ v ∈ R, v < 4294967296) (hz : R.length ≤ 1000000) :
    ∃ a1 c1 a2 c2, v1 = .slice a1 P.length c1 ∧ v2 = .slice a2 R.length c2 ∧ R.length ≤ c2 ∧ ∃ ks', (∀ p ∈ ks, p ∈ ks') ∧ NS w lb fb rb L s ks' W' ∧ ∀ L' s' W2, NS w lb fb rb L' s' ks' W2 → PV W2 a1 P ∧ LV W2 a2 R := by
  obtain ⟨kb, o1, o2, _⟩ := k
  -- the rows, as they lie
  have key1 : ∃ (a1 : Option Addr) (c1 : Nat) (js : List (Nat × Obj)), v1 = .slice a1 P.length c1 ∧ (∀ p ∈ js, W.heap.size ≤ p.1 ∧ W'.heap[p.1]? = some p.2) ∧ ∀ W2, (∀ p ∈ js, W2.heap[p.1]? = some p.2) → PV W2 a1 P := by
    rcases o1.2 with ⟨rfl, h0⟩ | ⟨g, cap, cur, rfl, hb, hcell, hn, hcm, hcs, htake⟩
    · exact ⟨none, 0, [], by rw [h0], (fun p hp => by cases hp), fun W2 _ i hi => by omega⟩
    · refine ⟨_, cap, [(g, .cells cur 126 (0, 0))], rfl, fun p hp => ?_, fun W2 h2 i hi => ⟨g, rfl, ?_⟩⟩
      · rcases List.mem_cons.1 hp with rfl | hp
        · exact ⟨hb, hcell⟩
        · cases hp
      · have hr := h2 _ (List.mem_cons_self ..)
        have hg := prV_get P i hi
        rw [← htake] at hg
        rw [cell_of_row _ _ _ _ _ _ hr, cell_of_row _ _ _ _ _ _ hr, ← Array.getElem?_toList, ← Array.getElem?_toList]
        rw [List.getElem?_take_of_lt (by omega), List.getElem?_take_of_lt (by omega)] at hg
        exact hg
  have key2 : ∃ (a2 : Option Addr) (c2 : Nat) (js : List (Nat × Obj)), v2 = .slice a2 R.length c2 ∧ R.length ≤ c2 ∧ (∀ p ∈ js, W.heap.size ≤ p.1 ∧ W'.heap[p.1]? = some p.2) ∧ ∀ W2, (∀ p ∈ js, W2.heap[p.1]? = some p.2) → LV W2 a2 R := by
    rcases o2.2 with ⟨rfl, h0⟩ | ⟨g, cap, cur, rfl, hb, hcell, hn, hcm, hcs, htake⟩
    · exact ⟨none, 0, [], by rw [h0], by omega, (fun p hp => by cases hp), fun W2 _ => ⟨by omega, fun i hi => by omega⟩⟩
    · refine ⟨_, cap, [(g, .cells cur 60 (0, 0))], rfl, hn, fun p hp => ?_, fun W2 h2 => ⟨by omega, fun i hi => ?_⟩⟩
      · rcases List.mem_cons.1 hp with rfl | hp
        · exact ⟨hb, hcell⟩
        · cases hp
      · have hr := h2 _ (List.mem_cons_self ..)
        refine ⟨g, 0, rfl, lt_of_block hr, ?_, hR _ (List.getElem_mem hi)⟩
        have hg : (u32V R)[i]? = some (.int .u32 (R[i] : Int)) := by unfold u32V; rw [List.getElem?_map, List.getElem?_eq_getElem hi]; rfl
        rw [← htake, List.getElem?_take_of_lt (by omega)] at hg
        rw [Nat.zero_add, cell_of_row _ _ _ _ _ _ hr, ← Array.getElem?_toList]
        exact hg
  obtain ⟨a1, c1, j1, e1, q1, p1⟩ := key1
  obtain ⟨a2, c2, j2, e2, l2, q2, p2⟩ := key2
  refine ⟨a1, c1, a2, c2, e1, e2, l2, (j1 ++ j2) ++ ks, fun p hp => List.mem_append_right _ hp, h.more kb (j1 ++ j2) (fun p hp => ?_), fun L' s' W2 hS => ?_⟩
  · rcases List.mem_append.1 hp with hp | hp
    · exact q1 p hp
    · exact q2 p hp
  · exact ⟨p1 W2 (fun p hp => hS.ns0.row (List.mem_append_left _ (List.mem_append_left _ hp))), p2 W2 (fun p hp => hS.ns0.row (List.mem_append_left _ (List.mem_append_right _ hp)))⟩
end Go.Proofs.YtflnpcgnenhogaaDoor.ls
namespace Go.Proofs.YtflnpcgnenhogaaDoor.ls
open Go.RowKit Go.Proofs.YtflnpcgnenhogaaDoor.own Go.Proofs.YtflnpcgnenhogaaDoor.bit

set_option maxRecDepth 100000 in
set_option maxHeartbeats 12800000 in
theorem numbers_any (p : Pr) (x : Nat) (w : World) (hG : GL w) (a : Option Addr) (succ : List Nat) (cap : Nat) (b : Option Addr) (ref : List Nat) (capb r : Nat) (hc : succ.length ≤ cap) (hcb : ref.length ≤ capb) (hm : MayN x succ ref r p) (hA : LV w a succ) (hB : LV w b ref) :
    Calls Tryd.prog 34 #[parV (p.win : Int) (p.itv : Int) (p.zet : Int), .int .i64 (x : Int), .slice a succ.length cap, .slice b ref.length capb, .int .i64 (r : Int)] w (NumsP w (nums x succ ref r p)) := by
  have hmf : ∀ (fn : Fn) (first cap : Array Value) (w : World), (Instr.makeFunc fn first cap).run Tryd.prog w = .ok (.func fn first cap) w := fun _ _ _ _ => rfl
  obtain ⟨⟨hp1, hp2, hp3⟩, hx, hsu, hre, hr1, hr2⟩ := hm
  have hsl := hsu.len
  have hrl := hre.len
  have HA := Lib.hid hA
  have HB := Lib.hid hB
  have HG := Lib.hid hG
  have HSU := Lib.hid hsu
  have HRE := Lib.hid hre
  obtain ⟨NN, hNN⟩ : ∃ NN, nums x succ ref r p = NN := ⟨_, rfl⟩
  have HNN := Lib.hid hNN
  rw [hNN]
  obtain ⟨win, itv, zet⟩ := p
  simp only at hp1 hp2 hp3 hr1
  unfold parV
  dsimp only
  have hG1 := hG.below ((Below.refl w.heap.size w).alloc (Nat.le_refl _) (.cells #[.int .i64 (win : Int), .int .i64 (itv : Int), .int .i64 (zet : Int)] 38))
  have g0 := hG1.g0
  have g1 := hG1.g1
  clear hG1 hA hB hG hsu hre hNN
  obtain ⟨n, hn⟩ : ∃ n, succ.length = n := ⟨_, rfl⟩
  have HN := Lib.hid hn
  rw [hn] at hc hsl ⊢
  clear hn
  go_enter Tryd.func34, Tryd.ntmps34
  go_upto_region 2 with fail
  generalize hW : World.alloc (World.alloc (World.alloc w _) _) _ = W1
  have H1 := Lib.hid (NS0.start hW)
  clear hW g0 g1
  obtain ⟨sz, hsz⟩ : ∃ k, w.heap.size = k := ⟨_, rfl⟩
  rw [hsz] at H1 ⊢
  clear hsz
  obtain ⟨ks, hks⟩ : ∃ ks, ks = [(sz, Obj.cells #[.int .i64 (win : Int), .int .i64 (itv : Int), .int .i64 (zet : Int)] 38 (0, 0))] := ⟨_, rfl⟩
  have HKS : Hid ((sz, Obj.cells #[.int .i64 (win : Int), .int .i64 (itv : Int), .int .i64 (zet : Int)] 38 (0, 0)) ∈ ks) := Lib.hid (by rw [hks]; exact List.mem_cons_self ..)
  rw [← hks] at H1
  clear hks
  by_cases hn0 : n = 0
  · -- no successors
    obtain ⟨v, cv, hP⟩ := H1.out.done
    have E : Hid ([(Cd.gam, n)] = NN) := Lib.hid (by
      have : succ = [] := List.eq_nil_of_length_eq_zero (by rw [HN.out]; exact hn0)
      rw [← HNN.out, ← HN.out]
      subst this
      rfl)
    rw [E.out] at hP
    have HP := Lib.hid hP
    have n0 : ((n : Int) == 0) = true := by rw [hn0]; rfl
    clear hP
    subst hn0
    go_wp2_with fail
    go_ret
    exact HP.out
  · have n0 : ((n : Int) == 0) = false := beq_eq_false_iff_ne.2 (by omega)
    have hsne : succ ≠ [] := fun e => hn0 (by rw [← HN.out, e]; rfl)
    have HSNE := Lib.hid hsne
    clear hsne
    have r1 := H1.out.row HKS.out
    have c0 : W1.cell? ⟨sz, 0, none⟩ = some (.int .i64 (win : Int)) := by rw [cell_of_row _ _ _ _ _ _ r1]; rfl
    clear r1
    go_upto_if 38 with fail
    clear c0
    go_cut [] from 38 to 43 (fun wc => NS0 w (sz + 1 + 1) (hdN succ r ⟨win, itv, zet⟩) ks wc)
    case first =>
      by_cases hw0 : 0 < win
      · have E : Hid ([(Cd.gam, n)] ++ [(.una, r)] = hdN succ r ⟨win, itv, zet⟩) := Lib.hid (by unfold hdN; rw [if_neg HSNE.out, if_pos hw0, ← HN.out]; rfl)
        have PU := Lib.hid (H1.out.put .una r (by omega) (by simp))
        rw [E.out] at PU
        have hG1 := HG.out.below H1.out.below
        have u0 := hG1.u0
        have u1 := hG1.u1
        have hw1 : (0 : Int) < (win : Int) := by omega
        unfold cdV at PU
        clear hG1
        go_wp2_with fail
        with_reducible refine PU.out.mono ?_
        rintro e w2 ⟨rfl, h2⟩
        have H2 := Lib.hid h2
        clear h2
        go_wp2_with fail
        go_meet
        case rel => exact H2.out
      · have E : Hid ([(Cd.gam, n)] = hdN succ r ⟨win, itv, zet⟩) := Lib.hid (by unfold hdN; rw [if_neg HSNE.out, if_neg hw0, ← HN.out])
        have hw1 : ¬ (0 : Int) < (win : Int) := by omega
        go_wp2_with fail
        go_meet
        case rel => rw [← E.out]; exact H1.out
    case rest =>
      have H2 := Lib.hid hcut
      generalize wc = W2 at H2 ⊢
      clear H1 hcut
      go_upto_region 8 with fail
      generalize hW : World.alloc (World.alloc (World.alloc W2 _) _) _ = W3
      have H3 := Lib.hid (H2.out.more hW)
      clear hW
      obtain ⟨rb, hrb⟩ : ∃ k, W2.heap.size + 1 = k := ⟨_, rfl⟩
      obtain ⟨fb, hfb⟩ : ∃ k, rb + 1 = k := ⟨_, rfl⟩
      rw [hrb, hfb] at H3 ⊢
      clear hrb hfb H2
      have EA := Lib.hid (H3.out.each a succ cap b ref capb (by rw [HN.out]; exact hc) hcb (by rw [HN.out]; omega) HA.out HB.out)
      rw [HN.out, eachF_runs HSU.out HRE.out] at EA
      have RO := Lib.hid (runs_ok succ ref)
      obtain ⟨Q, hQ⟩ : ∃ Q, runs succ ref = Q := ⟨_, rfl⟩
      obtain ⟨Fl, hF⟩ : ∃ Fl, leftOf succ ref = Fl := ⟨_, rfl⟩
      rw [hQ, hF] at EA
      rw [hQ] at RO
      have HQ := Lib.hid hQ
      have HF := Lib.hid hF
      clear hQ hF
      go_wp2_with fail
      with_reducible refine EA.out.mono ?_
      rintro e w4 ⟨rfl, h4⟩
      have H4 := Lib.hid h4
      clear h4 EA H3
      have RL := Lib.hid RO.out.len
      have RP := Lib.hid RO.out.pos
      have RA := Lib.hid RO.out.all
      go_upto_if 49 with fail
      go_cut [] from 15 to 75 (fun wc => NS w (sz + 1 + 1) fb rb (hdN succ r ⟨win, itv, zet⟩ ++ runN succ ref r) (Fl, Q) ks wc)
      case first => as_aux_lemma =>
        --F1
        by_cases hr0 : 0 < r
        · have hri : (0 : Int) < (r : Int) := by omega
          have RN : Hid (runN succ ref r = (Cd.gam, Q.1.length) :: (rnm 0 Q.1).map (fun v => (Cd.gam, v))) := Lib.hid (by unfold runN; rw [if_pos hr0, HQ.out])
          obtain ⟨q1, hq1⟩ : ∃ q1, Q.1.length = q1 := ⟨_, rfl⟩
          have HQ1 := Lib.hid hq1
          have hql : q1 ≤ 65536 := by rw [← hq1]; exact Nat.le_trans RL.out hrl
          have hdl : (hdN succ r ⟨win, itv, zet⟩).length ≤ 2 := by
            unfold hdN
            split
            · simp
            · split <;> simp
          have HDL := Lib.hid hdl
          have PU := Lib.hid (H4.out.put .gam q1 (by omega) (by omega))
          obtain ⟨g, cg, e1, e2, e3, e4⟩ := H4.out.runs
          simp only at e1 e2 e4
          rw [hq1] at e1 e2
          have hG4 := HG.out.below H4.out.ns0.below
          have g0 := hG4.g0
          have g1 := hG4.g1
          have E1 := Lib.hid e1
          have i1 : IntKind.i64.wrap (((q1 + 1 : Nat) : Int) - 1) = (q1 : Int) := by rw [IntWalk.i64_in _ (by omega)]; omega
          unfold cdV at PU
          clear hG4 e3 e4 hdl hq1
          go_wp2_with fail
          with_reducible refine PU.out.mono ?_
          rintro e w5 ⟨rfl, h5, h5r⟩
          have H5 := Lib.hid h5
          have e5 : w5.cell? ⟨rb, 0, none⟩ = some (.slice (some ⟨g, 0, none⟩) (q1 + 1) cg) := h5r.trans E1.out
          have E5 := Lib.hid e5
          have s1 : ¬ (cg : Int) < (q1 : Int) := by omega
          clear h5 h5r g0 g1 PU H4 e1
          go_wp2_with fail
          clear e5
          have SM := Lib.hid (fun i (h : i < Q.1.length) => sum_get Q.1 i h)
          go_loopw [62] (fun vi wr => ∃ i : Nat, vi = .int .i64 (i : Int) ∧ i ≤ q1 ∧ NS w (sz + 1 + 1) fb rb ((hdN succ r ⟨win, itv, zet⟩ ++ [(Cd.gam, q1)]) ++ (rnm 0 (Q.1.take i)).map (fun v => (Cd.gam, v))) (Fl, Q) ks wr ∧ wr.cell? ⟨rb, 0, none⟩ = some (.slice (some ⟨g, 0, none⟩) (q1 + 1) cg)) (fun vi _ => q1 - (intOf vi).toNat)
          case atStart => exact ⟨0, rfl, Nat.zero_le _, by simpa [rnm] using H5.out, E5.out⟩
          case round =>
            obtain ⟨i, rfl, hi, hS, he⟩ := hrel
            have HS := Lib.hid hS
            have HE := Lib.hid he
            clear hS he
            by_cases hlt : i < q1
            · obtain ⟨g', cg', e1, _, e3, e4⟩ := HS.out.runs
              simp only at e1 e4
              obtain ⟨rfl, rfl⟩ : g' = g ∧ cg' = cg := by
                have := e1.symm.trans HE.out
                rw [HQ1.out] at this
                injection this with this
                injection this with h1 _ h3
                injection h1 with h1
                injection h1 with h1
                exact ⟨h1, h3⟩
              have hiq : i < Q.1.length := by rw [HQ1.out]; exact hlt
              have ei := e4 i hiq
              obtain ⟨v, hv⟩ : ∃ v, Q.1[i] = v := ⟨_, rfl⟩
              rw [hv] at ei
              have hvb : v ≤ 65536 := by
                have h1 := SM.out i hiq
                have h2 := RA.out
                rw [hv] at h1
                omega
              have hv0 : min i 1 ≤ v := by
                rcases Nat.eq_zero_or_pos i with h | h
                · omega
                · have := RP.out i hiq h
                  rw [hv] at this; omega
              have TS : Hid ((rnm 0 (Q.1.take (i + 1))).map (fun v => (Cd.gam, v)) = (rnm 0 (Q.1.take i)).map (fun v => (Cd.gam, v)) ++ [(Cd.gam, v - min i 1)]) := Lib.hid (by
                rw [List.take_succ_eq_append_getElem hiq, rnm_snoc, List.map_append, hv, List.length_take, Nat.min_eq_left (Nat.le_of_lt hiq), Nat.zero_add]
                rfl)
              have hln : ((hdN succ r ⟨win, itv, zet⟩ ++ [(Cd.gam, q1)]) ++ (rnm 0 (Q.1.take i)).map (fun v => (Cd.gam, v))).length ≤ 1000000000 := by
                have := HDL.out
                rw [List.length_append, List.length_append, List.length_map, rnm_length, List.length_take, List.length_singleton]
                omega
              have PU := Lib.hid (HS.out.put .gam (v - min i 1) (by omega) hln)
              rw [List.append_assoc, ← TS.out] at PU
              have hG4 := HG.out.below HS.out.ns0.below
              have g0 := hG4.g0
              have g1 := hG4.g1
              have i1 : (i : Int) < (q1 : Int) := by omega
              have i2 : min (i : Int) 1 = ((min i 1 : Nat) : Int) := by omega
              obtain ⟨mi, hmi⟩ : ∃ mi, min i 1 = mi := ⟨_, rfl⟩
              rw [hmi] at i2 hv0 PU
              have i3 : (v : Int) - (mi : Int) = ((v - mi : Nat) : Int) := by omega
              unfold cdV at PU
              clear hG4 e1 e3 e4 hln hv hmi
              go_wp2_with fail
              with_reducible refine PU.out.mono ?_
              rintro e w7 ⟨rfl, h7, h7r⟩
              have H7 := Lib.hid (And.intro h7 (h7r.trans HE.out))
              clear h7 h7r PU g0 g1 ei
              go_wp2_with fail
              go_roundw
              case rel => exact ⟨i + 1, by go_num, by omega, by have h7 := H7.out.1; simp only [List.append_assoc] at h7 ⊢; exact h7, H7.out.2⟩
              case measure => simp [intOf]; omega
            · obtain rfl : i = q1 := by omega
              have i1 : ¬ (i : Int) < (i : Int) := by omega
              have FIN : Hid ((hdN succ r ⟨win, itv, zet⟩ ++ [(Cd.gam, i)]) ++ (rnm 0 (Q.1.take i)).map (fun v => (Cd.gam, v)) = hdN succ r ⟨win, itv, zet⟩ ++ runN succ ref r) := Lib.hid (by
                rw [RN.out, HQ1.out, List.take_of_length_le (by rw [HQ1.out]; exact Nat.le_refl _), List.append_assoc]
                rfl)
              go_wp2_with fail
              go_meet
              case rel => rw [← FIN.out]; exact HS.out
        · have hri : ¬ (0 : Int) < (r : Int) := by omega
          have RN : Hid (hdN succ r ⟨win, itv, zet⟩ = hdN succ r ⟨win, itv, zet⟩ ++ runN succ ref r) := Lib.hid (by unfold runN; rw [if_neg hr0, List.append_nil])
          go_wp2_with fail
          go_meet
          case rel => rw [← RN.out]; exact H4.out
      case rest =>
        have H6 := Lib.hid hcut
        generalize wc = W6 at H6 ⊢
        clear H4 hcut
        obtain ⟨L2, hL2⟩ : ∃ L2, hdN succ r ⟨win, itv, zet⟩ ++ runN succ ref r = L2 := ⟨_, rfl⟩
        have HL2 := Lib.hid hL2
        rw [hL2] at H6
        have L2l : Hid (L2.length ≤ 131080) := Lib.hid (by
          rw [← hL2, List.length_append]
          have h1 : (hdN succ r ⟨win, itv, zet⟩).length ≤ 2 := by
            unfold hdN
            split
            · simp
            · split <;> simp
          have h2 : (runN succ ref r).length ≤ 1 + 65536 := by
            unfold runN
            split
            · rw [List.length_cons, List.length_map, rnm_length, HQ.out]
              have := RL.out
              omega
            · simp
          omega)
        have FR : Hid (Ris Fl) := Lib.hid (by
          rw [← HF.out]
          exact ⟨HSU.out.1.sublist List.filter_sublist, fun v hv => HSU.out.2 v (List.mem_filter.1 hv).1⟩)
        have hfl := FR.out.len
        obtain ⟨af, cf, f1, f2, f3⟩ := H6.out.left (fun v hv => Nat.lt_of_lt_of_le (FR.out.2 v hv) (by decide)) (by show Fl.length ≤ _; omega)
        simp only at f1 f2 f3
        have RE : Hid (NN = L2 ++ restN x Fl ⟨win, itv, zet⟩) := Lib.hid (by
          rw [← HNN.out, ← hL2, ← HF.out]
          unfold nums tlN
          rw [if_neg HSNE.out, List.append_assoc])
        obtain ⟨m, hm⟩ : ∃ m, Fl.length = m := ⟨_, rfl⟩
        rw [hm] at f1 f2 hfl
        have HM := Lib.hid hm
        have F3 := Lib.hid f3
        clear hL2 hm f3
        by_cases hm0 : m = 0
        · have n1 : ((m : Int) == 0) = true := by rw [hm0]; rfl
          obtain ⟨v, cv, hP⟩ := H6.out.ns0.done
          have E : Hid (L2 = NN) := Lib.hid (by
            have : Fl = [] := List.eq_nil_of_length_eq_zero (by rw [HM.out]; exact hm0)
            rw [RE.out, this]
            unfold restN
            rw [if_pos rfl, List.append_nil])
          rw [E.out] at hP
          have HP := Lib.hid hP
          clear hP hm0
          go_wp2_with fail
          go_ret
          exact HP.out
        · have n1 : ((m : Int) == 0) = false := beq_eq_false_iff_ne.2 (by omega)
          have hFne : Fl ≠ [] := fun e => hm0 (by rw [← HM.out, e]; rfl)
          have HFNE := Lib.hid hFne
          clear hFne
          have r6 := H6.out.ns0.row HKS.out
          have c1 : W6.cell? ⟨sz, 1, none⟩ = some (.int .i64 (itv : Int)) := by rw [cell_of_row _ _ _ _ _ _ r6]; rfl
          have RW := Lib.hid (rows_any W6 af Fl cf itv (by rw [HM.out]; exact f2) (by omega) F3.out FR.out)
          rw [HM.out] at RW
          clear r6
          go_wp2_with fail
          with_reducible refine RW.out.mono ?_
          rintro e w7 ⟨v1, v2, rfl, h7⟩
          have RK := Lib.hid (rws_ok itv Fl FR.out)
          obtain ⟨P, hP⟩ : ∃ P, (rws itv Fl).1 = P := ⟨_, rfl⟩
          obtain ⟨R, hR⟩ : ∃ R, (rws itv Fl).2 = R := ⟨_, rfl⟩
          rw [hP, hR] at h7
          have hRb : ∀ v ∈ R, v < 65536 := fun v hv => FR.out.2 v (RK.out.sub.subset (hR ▸ hv))
          have hRl : R.length ≤ 65536 := by
            have := RK.out.sub.length_le
            rw [hR, HM.out] at this
            omega
          have hPl : P.length ≤ 65536 := by
            have h1 := RK.out.perm.length_eq
            rw [List.length_append, sumLen, hP, HM.out] at h1
            have h2 := RK.out.apart
            rw [hP] at h2
            have h3 := apart_len _ _ h2
            omega
          obtain ⟨a1, c1', a2, c2', rfl, rfl, hc2, ks2, kin, H7, KV⟩ := H6.out.rows h7 (fun v hv => Nat.lt_of_lt_of_le (hRb v hv) (by decide)) (by omega)
          have HKV := Lib.hid KV
          have HKS2 := Lib.hid (kin _ HKS.out)
          have HP := Lib.hid hP
          have HR := Lib.hid hR
          have HRB := Lib.hid hRb
          have H7 := Lib.hid H7
          clear KV kin h7 hP hR hRb H6 c1 RW f1 n1
          have RE2 : Hid (NN = L2 ++ ((if 0 < itv then [(Cd.gam, P.length)] else []) ++ (lnm x itv none P).map (fun v => (Cd.gam, v)) ++ (znm x none R).map (fun v => (Cd.zet zet, v)))) := Lib.hid (by
            rw [RE.out]
            unfold restN
            rw [if_neg HFNE.out, HP.out, HR.out])
          obtain ⟨np, hnp⟩ : ∃ np, P.length = np := ⟨_, rfl⟩
          obtain ⟨nr, hnr⟩ : ∃ nr, R.length = nr := ⟨_, rfl⟩
          rw [hnp] at hPl RE2 ⊢
          rw [hnr] at hRl hc2 ⊢
          have HNP := Lib.hid hnp
          have HNR := Lib.hid hnr
          have r7 := H7.out.ns0.row HKS2.out
          have c1 : w7.cell? ⟨sz, 1, none⟩ = some (.int .i64 (itv : Int)) := by rw [cell_of_row _ _ _ _ _ _ r7]; rfl
          clear hnp hnr r7
          go_upto_if 88 with fail
          clear c1
          go_cut [] from 88 to 94 (fun wc => NS w (sz + 1 + 1) fb rb (L2 ++ (if 0 < itv then [(Cd.gam, np)] else [])) (Fl, Q) ks2 wc)
          case first => as_aux_lemma =>
            --F2
            by_cases hi0 : 0 < itv
            · have hi1 : (0 : Int) < (itv : Int) := by omega
              have PU := Lib.hid (H7.out.put .gam np (by omega) (Nat.le_trans L2l.out (by decide)))
              have E : Hid (L2 ++ [(Cd.gam, np)] = L2 ++ (if 0 < itv then [(Cd.gam, np)] else [])) := Lib.hid (by rw [if_pos hi0])
              rw [E.out] at PU
              have hG4 := HG.out.below H7.out.ns0.below
              have g0 := hG4.g0
              have g1 := hG4.g1
              unfold cdV at PU
              clear hG4
              go_wp2_with fail
              with_reducible refine PU.out.mono ?_
              rintro e w8 ⟨rfl, h8, -⟩
              have H8 := Lib.hid h8
              clear h8
              go_wp2_with fail
              go_meet
              case rel => exact H8.out
            · have hi1 : ¬ (0 : Int) < (itv : Int) := by omega
              have E : Hid (L2 = L2 ++ (if 0 < itv then [(Cd.gam, np)] else [])) := Lib.hid (by rw [if_neg hi0, List.append_nil])
              go_wp2_with fail
              go_meet
              case rel => rw [← E.out]; exact H7.out
          case rest =>
            have H8 := Lib.hid hcut
            generalize wc = W8 at H8 ⊢
            clear H7 hcut
            obtain ⟨L3, hL3⟩ : ∃ L3, L2 ++ (if 0 < itv then [(Cd.gam, np)] else []) = L3 := ⟨_, rfl⟩
            have HL3 := Lib.hid hL3
            rw [hL3] at H8
            have L3l : Hid (L3.length ≤ 131081) := Lib.hid (by
              rw [← hL3, List.length_append]
              have := L2l.out
              split <;> simp <;> omega)
            clear hL3
            have AP := Lib.hid (show Apart itv none P from HP.out ▸ RK.out.apart)
            go_wp2_with fail
            go_loopw [19, 96] (fun ve vi wr => ∃ i : Nat, vi = .int .i64 (i : Int) ∧ i ≤ np ∧ ve = endV (lend none (P.take i)) ∧ NS w (sz + 1 + 1) fb rb (L3 ++ (lnm x itv none (P.take i)).map (fun v => (Cd.gam, v))) (Fl, Q) ks2 wr) (fun _ vi _ => np - (intOf vi).toNat)
            case atStart => exact ⟨0, rfl, Nat.zero_le _, rfl, by simpa [lnm] using H8.out⟩
            case round =>
              obtain ⟨i, rfl, hi, rfl, hS⟩ := hrel
              have HS := Lib.hid hS
              clear hS
              by_cases hlt : i < np
              · --A1
                have hip : i < P.length := by rw [HNP.out]; exact hlt
                obtain ⟨g, rfl, p0, p1⟩ := (HKV.out _ _ _ HS.out).1 i hip
                obtain ⟨b0, b1, b2, b3⟩ := Apart.get AP.out i hip
                obtain ⟨f, hf⟩ : ∃ f, P[i].1 = f := ⟨_, rfl⟩
                obtain ⟨n', hn'⟩ : ∃ n', P[i].2 = n' := ⟨_, rfl⟩
                rw [hf] at p0 b2 b3
                rw [hn'] at p1 b0 b1 b2
                have TK : Hid (P.take (i + 1) = P.take i ++ [(f, n')]) := Lib.hid (by rw [List.take_succ_eq_append_getElem hip, ← hf, ← hn'])
                have SN := Lib.hid (lnm_snoc x itv none (P.take i) f n')
                have LS := Lib.hid (lend_snoc none (P.take i) f n')
                rw [← TK.out] at SN LS
                have LL : Hid ((L3 ++ (lnm x itv none (P.take i)).map (fun v => (Cd.gam, v))).length ≤ 1000000) := Lib.hid (by
                  rw [List.length_append, List.length_map, lnm_length, List.length_take]
                  have := L3l.out
                  omega)
                obtain ⟨L4, hL4⟩ : ∃ L4, L3 ++ (lnm x itv none (P.take i)).map (fun v => (Cd.gam, v)) = L4 := ⟨_, rfl⟩
                rw [hL4] at HS LL
                have HL4 := Lib.hid hL4
                obtain ⟨o, ho⟩ : ∃ o, lend none (P.take i) = o := ⟨_, rfl⟩
                rw [ho] at b3 SN ⊢
                obtain ⟨z, hz, hzo⟩ : ∃ z : Int, endV o = .int .i64 z ∧ ((o = none ∧ z = -1) ∨ ∃ e : Nat, o = some e ∧ z = (e : Int)) := by
                  cases o with
                  | none => exact ⟨-1, rfl, .inl ⟨rfl, rfl⟩⟩
                  | some e => exact ⟨(e : Int), rfl, .inr ⟨e, rfl, rfl⟩⟩
                rw [hz]
                have HZO := Lib.hid hzo
                clear hz hzo
                have H9 := Lib.hid (HS.out.more ((Below.refl wr.heap.size wr).alloc (Nat.le_refl _) (.cells #[.int .i64 (f : Int), .int .i64 (n' : Int)] 126)) [(wr.heap.size, .cells #[.int .i64 (f : Int), .int .i64 (n' : Int)] 126 (0, 0))] (fun p hp => by
                  rcases List.mem_cons.1 hp with rfl | hp
                  · exact ⟨Nat.le_refl _, heap_alloc_new wr _⟩
                  · cases hp))
                have i1 : (i : Int) < (np : Int) := by omega
                have i0 : (0 : Int) ≤ (i : Int) := Int.natCast_nonneg i
                clear hf hn' hL4 ho hip
                go_upto_if 101 with fail
                clear p0 p1
                generalize hvb : wr.heap.size = vb at H9 ⊢
                generalize World.alloc wr _ = W9 at H9 ⊢
                clear hvb
                obtain ⟨ks3, hks3⟩ : ∃ ks3, [(vb, Obj.cells #[.int .i64 (f : Int), .int .i64 (n' : Int)] 126 (0, 0))] ++ ks2 = ks3 := ⟨_, rfl⟩
                have K1 : Hid ((vb, Obj.cells #[.int .i64 (f : Int), .int .i64 (n' : Int)] 126 (0, 0)) ∈ ks3) := Lib.hid (by rw [← hks3]; exact List.mem_append_left _ (List.mem_cons_self ..))
                have K2 : Hid (∀ p ∈ ks2, p ∈ ks3) := Lib.hid (fun p hp => by rw [← hks3]; exact List.mem_append_right _ hp)
                have K3 : Hid (∀ L W, NS w (sz + 1 + 1) fb rb L (Fl, Q) ks3 W → NS w (sz + 1 + 1) fb rb L (Fl, Q) ks2 W) := Lib.hid (fun L W h => h.fewer K2.out)
                rw [hks3] at H9
                clear hks3 HS
                obtain ⟨v0, hv0⟩ : ∃ v0 : Nat, frstN x o f = v0 := ⟨_, rfl⟩
                have V0 := Lib.hid hv0
                have hv0b : v0 ≤ 262144 := by
                  rw [← hv0]
                  cases o with
                  | none => exact zig_lt (by omega) hx
                  | some e => show f - e - 2 ≤ _; omega
                rw [hv0] at SN
                have B3 := Lib.hid b3
                clear hv0 b3
                go_cut [] from 100 to 119 (fun wc => NS w (sz + 1 + 1) fb rb (L4 ++ [(Cd.gam, v0)]) (Fl, Q) ks3 wc)
                case first => as_aux_lemma =>
                  --F3
                  have PU := Lib.hid (fun W h => NS.put (W := W) (ks := ks3) (L := L4) (s := (Fl, Q)) (w := w) (lb := sz + 1 + 1) (fb := fb) (rb := rb) h .gam v0 (by omega) (Nat.le_trans LL.out (by decide)))
                  have CF := Lib.hid (fun L W (h : NS w (sz + 1 + 1) fb rb L (Fl, Q) ks3 W) => h.ns0.row K1.out)
                  rcases HZO.out with ⟨rfl, rfl⟩ | ⟨e, rfl, rfl⟩
                  · --R26
                    have hz : (-1 : Int) < 0 := by decide
                    have ZG := Lib.hid (fun W => Zig_any ((f : Int) - (x : Int)) (by omega) (by omega) W)
                    have V1 : Hid (zig ((f : Int) - (x : Int)) = v0) := V0
                    rw [V1.out] at ZG
                    have w1 : IntKind.i64.wrap ((f : Int) - (x : Int)) = (f : Int) - (x : Int) := IntWalk.i64_in _ (by omega)
                    have hv1 : v0 < 9223372036854775807 := by omega
                    go_upto_region 26 with fail
                    have h9 := H9.out.next (W' := { W9 with drawn := W9.drawn + 1 }) ⟨rfl, rfl, rfl, Nat.le_refl _, fun _ _ => rfl⟩
                    generalize hW : ({ W9 with drawn := W9.drawn + 1 } : World) = W10 at h9
                    have r9 := CF.out _ _ h9
                    have c0 : W10.cell? ⟨vb, 0, none⟩ = some (.int .i64 (f : Int)) := by rw [cell_of_row _ _ _ _ _ _ r9]; rfl
                    have hG4 := HG.out.below h9.ns0.below
                    have g0 := hG4.g0
                    have g1 := hG4.g1
                    have H10 := Lib.hid h9
                    clear h9 r9 hG4
                    refine wp_region_still_tail 8 (by kernel_rfl) (by kernel_rfl) ?_
                    simp only [List.take_succ_cons, List.take_zero, List.drop_succ_cons, List.drop_zero]
                    rw [hW]
                    clear hW
                    repeat (first | still_step | still_call ((ZG.out _).mono (fun e w' h => ⟨h.1, h.2.symm⟩)))
                    refine wpStill_nil ?_
                    clear c0 g0 g1 w1 ZG
                    unfold cdV at PU
                    go_wp2_with fail
                    with_reducible refine (PU.out _ H10.out).mono ?_
                    rintro e w12 ⟨rfl, h12, -⟩
                    have H12 := Lib.hid h12
                    clear h12
                    go_wp2_with fail
                    go_meet
                    case rel => exact H12.out
                  · --R27
                    have hz : ¬ (e : Int) < 0 := by omega
                    have hef := B3.out e rfl
                    have V1 : f - e - 2 = v0 := V0.out
                    have w1 : (f : Int) - (e : Int) - 2 = (v0 : Int) := by omega
                    have W1' := Lib.hid w1
                    have r9 := CF.out _ _ H9.out
                    have c0 : W9.cell? ⟨vb, 0, none⟩ = some (.int .i64 (f : Int)) := by rw [cell_of_row _ _ _ _ _ _ r9]; rfl
                    have hG4 := HG.out.below H9.out.ns0.below
                    have g0 := hG4.g0
                    have g1 := hG4.g1
                    clear r9 hG4 V1
                    unfold cdV at PU
                    go_wp2_with fail
                    with_reducible refine (PU.out _ H9.out).mono ?_
                    rintro e w12 ⟨rfl, h12, -⟩
                    have H12 := Lib.hid h12
                    clear h12
                    go_wp2_with fail
                    go_meet
                    case rel => exact H12.out
                case rest =>
                  have H11 := Lib.hid hcut
                  generalize wc = W11 at H11 ⊢
                  clear hcut H9
                  have r1 := H11.out.ns0.row K1.out
                  have c1 : W11.cell? ⟨vb, 1, none⟩ = some (.int .i64 (n' : Int)) := by rw [cell_of_row _ _ _ _ _ _ r1]; rfl
                  have r2 := H11.out.ns0.row (K2.out _ HKS2.out)
                  have c2 : W11.cell? ⟨sz, 1, none⟩ = some (.int .i64 (itv : Int)) := by rw [cell_of_row _ _ _ _ _ _ r2]; rfl
                  have hG4 := HG.out.below H11.out.ns0.below
                  have g0 := hG4.g0
                  have g1 := hG4.g1
                  have PU := Lib.hid (H11.out.put .gam (n' - itv) (by omega) (by have := LL.out; rw [List.length_append, List.length_singleton]; omega))
                  have w1 : (n' : Int) - (itv : Int) = ((n' - itv : Nat) : Int) := by omega
                  have w2 : (f : Int) + (n' : Int) - 1 = ((f + n' - 1 : Nat) : Int) := by omega
                  unfold cdV at PU
                  clear r1 r2 hG4
                  go_wp2_with fail
                  with_reducible refine PU.out.mono ?_
                  rintro e w12 ⟨rfl, h12, -⟩
                  have r1 := h12.ns0.row K1.out
                  have c1' : w12.cell? ⟨vb, 1, none⟩ = some (.int .i64 (n' : Int)) := by rw [cell_of_row _ _ _ _ _ _ r1]; rfl
                  have c0' : w12.cell? ⟨vb, 0, none⟩ = some (.int .i64 (f : Int)) := by rw [cell_of_row _ _ _ _ _ _ r1]; rfl
                  have H12 := Lib.hid (K3.out _ _ h12)
                  clear h12 r1 c1 c2 g0 g1 PU
                  go_wp2_with fail
                  go_roundw
                  case rel =>
                    refine ⟨i + 1, by go_num, by omega, ?_, ?_⟩
                    · rw [LS.out, endV, ← w2]
                    · rw [SN.out, List.map_append, ← List.append_assoc, HL4.out]
                      have h12 := H12.out
                      rw [List.append_assoc] at h12
                      exact h12
                  case measure => simp [intOf]; omega
              · obtain rfl : i = np := by omega
                --B
                have PT : Hid (P.take i = P) := Lib.hid (List.take_of_length_le (by rw [HNP.out]; exact Nat.le_refl _))
                rw [PT.out] at HS ⊢
                have i1 : ¬ (i : Int) < (i : Int) := by omega
                have r2 := HS.out.ns0.row HKS2.out
                have c2 : wr.cell? ⟨sz, 2, none⟩ = some (.int .i64 (zet : Int)) := by rw [cell_of_row _ _ _ _ _ _ r2]; rfl
                have hzz : zet < 100 := by omega
                obtain ⟨L5, hL5⟩ : ∃ L5, L3 ++ (lnm x itv none P).map (fun v => (Cd.gam, v)) = L5 := ⟨_, rfl⟩
                rw [hL5] at HS
                have L5l : Hid (L5.length ≤ 300000) := Lib.hid (by
                  rw [← hL5, List.length_append, List.length_map, lnm_length, HNP.out]
                  have := L3l.out
                  omega)
                have HL5 := Lib.hid hL5
                have H12 := Lib.hid (HS.out.more ((Below.refl wr.heap.size wr).alloc (Nat.le_refl _) (.cells #[.int .u8 3, .int .u64 (zet : Int)] 85)) [(wr.heap.size, .cells #[.int .u8 3, .int .u64 (zet : Int)] 85 (0, 0))] (fun p hp => by
                  rcases List.mem_cons.1 hp with rfl | hp
                  · exact ⟨Nat.le_refl _, heap_alloc_new wr _⟩
                  · cases hp))
                clear r2 hL5
                go_upto_region 33 with fail
                generalize hvb : wr.heap.size = zb at H12 ⊢
                generalize World.alloc wr _ = W12 at H12 ⊢
                clear hvb c2 HS
                obtain ⟨ks3, hks3⟩ : ∃ ks3, [(zb, Obj.cells #[.int .u8 3, .int .u64 (zet : Int)] 85 (0, 0))] ++ ks2 = ks3 := ⟨_, rfl⟩
                have K1 : Hid ((zb, Obj.cells #[.int .u8 3, .int .u64 (zet : Int)] 85 (0, 0)) ∈ ks3) := Lib.hid (by rw [← hks3]; exact List.mem_append_left _ (List.mem_cons_self ..))
                have K2 : Hid (∀ p ∈ ks2, p ∈ ks3) := Lib.hid (fun p hp => by rw [← hks3]; exact List.mem_append_right _ hp)
                rw [hks3] at H12
                clear hks3
                go_wp2_with fail
                go_loopw [140] (fun vj wq => ∃ j : Nat, vj = .int .i64 (j : Int) ∧ j ≤ nr ∧ NS w (sz + 1 + 1) fb rb (L5 ++ (znm x none (R.take j)).map (fun v => (Cd.zet zet, v))) (Fl, Q) ks3 wq) (fun vj _ => nr - (intOf vj).toNat)
                case atStart => exact ⟨0, rfl, Nat.zero_le _, by simpa [znm] using H12.out⟩
                case round =>
                  obtain ⟨j, rfl, hj, hS⟩ := hrel
                  have HS := Lib.hid hS
                  clear hS H12
                  by_cases hlt : j < nr
                  · have hjr : j < R.length := by rw [HNR.out]; exact hlt
                    have LV2 := Lib.hid (HKV.out _ _ _ (HS.out.fewer K2.out)).2
                    obtain ⟨v, hv⟩ : ∃ v, R[j] = v := ⟨_, rfl⟩
                    have hvb : v < 65536 := by rw [← hv]; exact HRB.out _ (List.getElem_mem hjr)
                    obtain ⟨g, o, rfl, -, p0, -⟩ := LV2.out.2 j hjr
                    rw [hv] at p0
                    have SN := Lib.hid (znm_snoc x none (R.take j) v)
                    have TK : Hid (R.take (j + 1) = R.take j ++ [v]) := Lib.hid (by rw [List.take_succ_eq_append_getElem hjr, hv])
                    rw [← TK.out] at SN
                    obtain ⟨L6, hL6⟩ : ∃ L6, L5 ++ (znm x none (R.take j)).map (fun v => (Cd.zet zet, v)) = L6 := ⟨_, rfl⟩
                    have L6l : Hid (L6.length ≤ 400000) := Lib.hid (by
                      rw [← hL6, List.length_append, List.length_map, znm_length, List.length_take]
                      have := L5l.out
                      omega)
                    rw [hL6] at HS
                    have HL6 := Lib.hid hL6
                    have CF := Lib.hid (fun L W (h : NS w (sz + 1 + 1) fb rb L (Fl, Q) ks3 W) => h.ns0.row K1.out)
                    have j1 : (j : Int) < (nr : Int) := by omega
                    have j0 : (0 : Int) ≤ (j : Int) := Int.natCast_nonneg j
                    clear hv hL6
                    by_cases hj0 : j = 0
                    · --G1
                      obtain ⟨v0, hv0⟩ : ∃ v0, zig ((v : Int) - x) = v0 := ⟨_, rfl⟩
                      have hv0b : v0 ≤ 262144 := hv0 ▸ zig_lt hvb hx
                      have SN2 : Hid (znm x none (R.take (j + 1)) = znm x none (R.take j) ++ [v0]) := Lib.hid (by
                        rw [SN.out, ← hv0]
                        subst hj0
                        rfl)
                      have ZG := Lib.hid (fun W => Zig_any ((v : Int) - (x : Int)) (by omega) (by omega) W)
                      rw [hv0] at ZG
                      have PU := Lib.hid (fun W h => NS.put (W := W) (ks := ks3) (L := L6) (s := (Fl, Q)) (w := w) (lb := sz + 1 + 1) (fb := fb) (rb := rb) h (.zet zet) v0 (by omega) (Nat.le_trans L6l.out (by decide)))
                      have jz : ((j : Int) == 0) = true := by rw [hj0]; rfl
                      have hv1 : v0 < 9223372036854775807 := by omega
                      clear hv0 SN hj0
                      go_upto_region 36 with fail
                      have h9 := HS.out.next (W' := { wr with drawn := wr.drawn + 1 }) ⟨rfl, rfl, rfl, Nat.le_refl _, fun _ _ => rfl⟩
                      generalize hW : ({ wr with drawn := wr.drawn + 1 } : World) = W10 at h9
                      have r9 := CF.out _ _ h9
                      have c0 : W10.cell? ⟨zb, 0, none⟩ = some (.int .u8 3) := by rw [cell_of_row _ _ _ _ _ _ r9]; rfl
                      have c1 : W10.cell? ⟨zb, 1, none⟩ = some (.int .u64 (zet : Int)) := by rw [cell_of_row _ _ _ _ _ _ r9]; rfl
                      have H10 := Lib.hid h9
                      clear h9 r9
                      have w1 : IntKind.i64.wrap (v : Int) = (v : Int) := i64_nat v (by omega)
                      have w2 : IntKind.i64.wrap ((v : Int) - (x : Int)) = (v : Int) - (x : Int) := i64_diff v x hvb hx
                      refine wp_region_still_tail 8 (by kernel_rfl) (by kernel_rfl) ?_
                      simp only [List.take_succ_cons, List.take_zero, List.drop_succ_cons, List.drop_zero]
                      rw [hW]
                      clear hW
                      repeat (first | still_step | still_call ((ZG.out _).mono (fun e w' h => ⟨h.1, h.2.symm⟩)))
                      refine wpStill_nil ?_
                      clear c0 c1 w1 w2 ZG
                      unfold cdV at PU
                      go_wp2_with fail
                      with_reducible refine (PU.out _ H10.out).mono ?_
                      rintro e w12 ⟨rfl, h12, -⟩
                      have H13 := Lib.hid h12
                      clear h12
                      go_wp2_with fail
                      go_roundw
                      case rel =>
                        refine ⟨j + 1, by go_num, by omega, ?_⟩
                        rw [SN2.out, List.map_append, ← List.append_assoc, HL6.out]
                        exact H13.out
                      case measure => simp [intOf]; omega
                    · --G2
                      have hjm : j - 1 < R.length := by omega
                      obtain ⟨u, hu⟩ : ∃ u, R[j - 1] = u := ⟨_, rfl⟩
                      have huv : u < v := by
                        have h1 := (FR.out.1.sublist (show List.Sublist R Fl from HR.out ▸ RK.out.sub))
                        have h2 := List.pairwise_iff_getElem.1 h1 (j - 1) j hjm hjr (by omega)
                        rw [hu] at h2
                        have h3 : R[j] = v := by
                          have e : (R.take (j + 1))[j]? = (R.take j ++ [v])[j]? := by rw [TK.out]
                          rw [List.getElem?_take_of_lt (by omega), List.getElem?_append_right (by rw [List.length_take]; omega), List.length_take, Nat.min_eq_left (by omega), Nat.sub_self, List.getElem?_eq_getElem hjr] at e
                          simpa using e
                        omega
                      obtain ⟨g', o', he, -, p1, -⟩ := LV2.out.2 (j - 1) hjm
                      injection he with he
                      injection he with he1 he2
                      subst he1 he2
                      rw [hu] at p1
                      have SN2 : Hid (znm x none (R.take (j + 1)) = znm x none (R.take j) ++ [v - u - 1]) := Lib.hid (by
                        rw [SN.out]
                        have e : R.take j = R.take (j - 1) ++ [u] := by
                          have := List.take_succ_eq_append_getElem hjm
                          rw [hu, show j - 1 + 1 = j by omega] at this
                          exact this
                        rw [e, List.getLast?_concat]
                        rfl)
                      have PU := Lib.hid (fun W h => NS.put (W := W) (ks := ks3) (L := L6) (s := (Fl, Q)) (w := w) (lb := sz + 1 + 1) (fb := fb) (rb := rb) h (.zet zet) (v - u - 1) (by omega) (Nat.le_trans L6l.out (by decide)))
                      have jz : ((j : Int) == 0) = false := beq_eq_false_iff_ne.2 (by omega)
                      have LVF := Lib.hid (fun L W (h : NS w (sz + 1 + 1) fb rb L (Fl, Q) ks3 W) => (HKV.out _ _ _ (h.fewer K2.out)).2)
                      clear hu hjm hjr
                      go_upto_region 37 with fail
                      have h9 := HS.out.next (W' := { wr with drawn := wr.drawn + 1 }) ⟨rfl, rfl, rfl, Nat.le_refl _, fun _ _ => rfl⟩
                      have p2 : ({ wr with drawn := wr.drawn + 1 } : World).cell? ⟨g, o + (j - 1), none⟩ = some (.int .u32 (u : Int)) := p1
                      generalize hW : ({ wr with drawn := wr.drawn + 1 } : World) = W10 at h9 p2
                      have r9 := CF.out _ _ h9
                      have c0 : W10.cell? ⟨zb, 0, none⟩ = some (.int .u8 3) := by rw [cell_of_row _ _ _ _ _ _ r9]; rfl
                      have c1 : W10.cell? ⟨zb, 1, none⟩ = some (.int .u64 (zet : Int)) := by rw [cell_of_row _ _ _ _ _ _ r9]; rfl
                      have H10 := Lib.hid h9
                      obtain ⟨jj, hjj⟩ : ∃ jj, j - 1 = jj := ⟨_, rfl⟩
                      rw [hjj] at p2
                      have jm1 : IntKind.i64.wrap ((j : Int) - 1) = (jj : Int) := by rw [IntWalk.i64_in _ (by omega)]; omega
                      have jl : (jj : Int) < (nr : Int) := by omega
                      have jp : (0 : Int) ≤ (jj : Int) := Int.natCast_nonneg _
                      clear hjj
                      have q1 : IntKind.u32.wrap ((v : Int) - (u : Int)) = ((v - u : Nat) : Int) := by rw [IntKind.wrap_u32]; omega
                      obtain ⟨vu, hvu⟩ : ∃ vu, v - u = vu := ⟨_, rfl⟩
                      obtain ⟨v0, hv0⟩ : ∃ v0, v - u - 1 = v0 := ⟨_, rfl⟩
                      rw [hvu] at q1
                      have q2 : IntKind.u32.wrap ((vu : Int) - 1) = (v0 : Int) := by clear q1; rw [IntKind.wrap_u32]; omega
                      have hv063 : v0 ≤ 9223372036854775807 := by clear q1 q2; omega
                      have q3 : IntKind.i64.wrap (v0 : Int) = (v0 : Int) := i64_nat _ hv063
                      rw [hv0] at PU SN2
                      clear hvu hv0 hv063
                      clear h9 r9 p1 p0
                      refine wp_region_still_tail 11 (by kernel_rfl) (by kernel_rfl) ?_
                      simp only [List.take_succ_cons, List.take_zero, List.drop_succ_cons, List.drop_zero]
                      rw [hW]
                      clear hW
                      repeat still_step
                      refine wpStill_nil ?_
                      clear c0 c1 q1 q2 q3 jm1 p2
                      unfold cdV at PU
                      go_wp2_with fail
                      with_reducible refine (PU.out _ H10.out).mono ?_
                      rintro e w12 ⟨rfl, h12, -⟩
                      have H13 := Lib.hid h12
                      clear h12
                      go_wp2_with fail
                      go_roundw
                      case rel =>
                        refine ⟨j + 1, by go_num, by omega, ?_⟩
                        rw [SN2.out, List.map_append, ← List.append_assoc, HL6.out]
                        exact H13.out
                      case measure => simp [intOf]; omega
                  · obtain rfl : j = nr := by omega
                    --G3
                    have RT : Hid (R.take j = R) := Lib.hid (List.take_of_length_le (by rw [HNR.out]; exact Nat.le_refl _))
                    have FIN : Hid (L5 ++ (znm x none (R.take j)).map (fun v => (Cd.zet zet, v)) = NN) := Lib.hid (by
                      rw [RT.out, RE2.out, ← HL5.out, ← HL3.out]
                      simp only [List.append_assoc])
                    have hs := HS.out
                    rw [FIN.out] at hs
                    obtain ⟨vv, cv, hPP⟩ := hs.ns0.done
                    have HPP := Lib.hid hPP
                    have j1 : ¬ (j : Int) < (j : Int) := by omega
                    clear hs hPP
                    go_wp2_with fail
                    go_ret
                    exact HPP.out
end Go.Proofs.YtflnpcgnenhogaaDoor.ls
namespace Go.Proofs.YtflnpcgnenhogaaDoor.ls
open Go.RowKit Go.Proofs.YtflnpcgnenhogaaDoor.own Go.Proofs.YtflnpcgnenhogaaDoor.bit

/-! ### how great numbers are, how many there are -/
theorem zig_lt2 {v x : Nat} (hv : v < 65536) (hx : x < 65536) : zig ((v : Int) - x) < 262144 := by
  unfold zig
  split <;> omega
theorem rnm_all : ∀ (i : Nat) (l : List Nat), (∀ n ∈ l, n ≤ 65536) → ∀ v ∈ rnm i l, v < 262144
  | _, [], _, v, hv => by cases hv
  | i, n :: l, h, v, hv => by
    have h0 := h n (List.mem_cons_self ..)
    rcases List.mem_cons.1 hv with rfl | hv
    · omega
    · exact rnm_all (i + 1) l (fun m hm => h m (List.mem_cons_of_mem _ hm)) v hv
theorem lnm_all (x itv : Nat) (hx : x < 65536) : ∀ (e : Option Nat) (l : List (Nat × Nat)), Apart itv e l → ∀ v ∈ lnm x itv e l, v < 262144
  | none, [], _, v, hv => by cases hv
  | some _, [], _, v, hv => by cases hv
  | none, (f, n) :: l, h, v, hv => by
    obtain ⟨h1, h2, h3, h4⟩ := h
    rw [lnm_cons] at hv
    rcases List.mem_cons.1 hv with rfl | hv
    · exact zig_lt2 (by omega) hx
    · rcases List.mem_cons.1 hv with rfl | hv
      · omega
      · exact lnm_all x itv hx _ l h4 v hv
  | some e, (f, n) :: l, h, v, hv => by
    obtain ⟨h0, h1, h2, h3, h4⟩ := h
    rw [lnm_cons] at hv
    rcases List.mem_cons.1 hv with rfl | hv
    · show f - e - 2 < _; omega
    · rcases List.mem_cons.1 hv with rfl | hv
      · omega
      · exact lnm_all x itv hx _ l h4 v hv
theorem znm_all (x : Nat) (hx : x < 65536) : ∀ (e : Option Nat) (l : List Nat), (∀ v ∈ l, v < 65536) → ∀ v ∈ znm x e l, v < 262144
  | none, [], _, v, hv => by cases hv
  | some _, [], _, v, hv => by cases hv
  | none, a :: l, h, v, hv => by
    have h0 := h a (List.mem_cons_self ..)
    rcases List.mem_cons.1 hv with rfl | hv
    · exact zig_lt2 h0 hx
    · exact znm_all x hx _ l (fun u hu => h u (List.mem_cons_of_mem _ hu)) v hv
  | some e, a :: l, h, v, hv => by
    have h0 := h a (List.mem_cons_self ..)
    rcases List.mem_cons.1 hv with rfl | hv
    · show a - e - 1 < _; omega
    · exact znm_all x hx _ l (fun u hu => h u (List.mem_cons_of_mem _ hu)) v hv
theorem apart_len2 {itv : Nat} (h2 : 2 ≤ itv) : ∀ (e : Option Nat) (l : List (Nat × Nat)), Apart itv e l → 2 * l.length ≤ sum (l.map (·.2))
  | _, [], _ => Nat.zero_le _
  | none, (f, n) :: r, h => by
    have := apart_len2 h2 _ r h.2.2.2
    have h2 := h.1
    show 2 * (r.length + 1) ≤ n + sum (r.map (·.2))
    omega
  | some e, (f, n) :: r, h => by
    have := apart_len2 h2 _ r h.2.2.2.2
    have h2 := h.2.1
    show 2 * (r.length + 1) ≤ n + sum (r.map (·.2))
    omega
def NumOk (q : Cd × Nat) : Prop := q.1.ok ∧ q.2 < 262144 ∧ (q.1 = .una → q.2 ≤ 16)
theorem NumOk.most {q : Cd × Nat} (h : NumOk q) : q.2 ≤ q.1.most := by
  obtain ⟨c, v⟩ := q
  obtain ⟨h1, h2, h3⟩ := h
  cases c with
  | una => have := h3 rfl; show v ≤ 65535; omega
  | gam => show v ≤ 281474976710654; simp only at h2; omega
  | zet k => show v ≤ 281474976710654; simp only at h2; omega
theorem nums_ok {x : Nat} {succ ref : List Nat} {r : Nat} {p : Pr} (h : MayN x succ ref r p) : (∀ q ∈ nums x succ ref r p, NumOk q) ∧ (nums x succ ref r p).length ≤ 131076 := by
  obtain ⟨⟨hp1, hp2, hp3⟩, hx, hsu, hre, hr1, hr2⟩ := h
  have hsl := hsu.len
  have hrl := hre.len
  have RO := runs_ok succ ref
  have hL : Ris (leftOf succ ref) := ⟨hsu.1.sublist List.filter_sublist, fun v hv => hsu.2 v (List.mem_filter.1 hv).1⟩
  have RW := rws_ok p.itv _ hL
  have hll := hL.len
  have hpl := RW.perm.length_eq
  rw [List.length_append, sumLen] at hpl
  have hlens : 2 * (rws p.itv (leftOf succ ref)).1.length + (rws p.itv (leftOf succ ref)).2.length ≤ 65536 := by
    rcases hp2 with h0 | h0
    · rw [h0, rws_zero]; simp; omega
    · have := apart_len2 h0.1 _ _ RW.apart
      omega
  have gok : ∀ v, v < 262144 → NumOk (.gam, v) := fun v hv => ⟨trivial, hv, fun h => by cases h⟩
  unfold nums hdN tlN runN restN
  constructor
  · intro q hq
    rcases List.mem_append.1 hq with hq | hq
    · rcases List.mem_cons.1 hq with rfl | hq
      · exact gok _ (by omega)
      · split at hq
        · cases hq
        · split at hq
          · rcases List.mem_cons.1 hq with rfl | hq
            · exact ⟨trivial, by show r < _; omega, fun _ => by show r ≤ 16; omega⟩
            · cases hq
          · cases hq
    · split at hq
      · cases hq
      · rcases List.mem_append.1 hq with hq | hq
        · split at hq
          · rcases List.mem_cons.1 hq with rfl | hq
            · exact gok _ (by have := RO.len; omega)
            · obtain ⟨v, hv, rfl⟩ := List.mem_map.1 hq
              refine gok _ (rnm_all 0 _ (fun n hn => ?_) v hv)
              obtain ⟨i, hi, rfl⟩ := List.mem_iff_getElem.1 hn
              have := sum_get (runs succ ref).1 i hi
              have := RO.all
              omega
          · cases hq
        · split at hq
          · cases hq
          · rcases List.mem_append.1 hq with hq | hq
            · rcases List.mem_append.1 hq with hq | hq
              · split at hq
                · rcases List.mem_cons.1 hq with rfl | hq
                  · exact gok _ (by omega)
                  · cases hq
                · cases hq
              · obtain ⟨v, hv, rfl⟩ := List.mem_map.1 hq
                exact gok _ (lnm_all x p.itv hx none _ RW.apart v hv)
            · obtain ⟨v, hv, rfl⟩ := List.mem_map.1 hq
              exact ⟨hp3, znm_all x hx none _ (fun u hu => hL.2 u (RW.sub.subset hu)) v hv, fun h => by cases h⟩
  · have hrn := RO.len
    rw [List.length_append, List.length_cons]
    have e1 : (if succ = [] then ([] : List (Cd × Nat)) else if 0 < p.win then [(Cd.una, r)] else []).length ≤ 1 := by
      split
      · simp
      · split <;> simp
    have e2 : (if succ = [] then ([] : List (Cd × Nat)) else (if 0 < r then (Cd.gam, (runs succ ref).1.length) :: (rnm 0 (runs succ ref).1).map (fun v => (Cd.gam, v)) else []) ++ (if leftOf succ ref = [] then [] else (if 0 < p.itv then [(Cd.gam, (rws p.itv (leftOf succ ref)).1.length)] else []) ++ (lnm x p.itv none (rws p.itv (leftOf succ ref)).1).map (fun v => (Cd.gam, v)) ++ (znm x none (rws p.itv (leftOf succ ref)).2).map (fun v => (Cd.zet p.zet, v)))).length ≤ 131074 := by
      split
      · simp
      · rw [List.length_append]
        have e3 : (if 0 < r then (Cd.gam, (runs succ ref).1.length) :: (rnm 0 (runs succ ref).1).map (fun v => (Cd.gam, v)) else ([] : List (Cd × Nat))).length ≤ 65537 := by
          split
          · rw [List.length_cons, List.length_map, rnm_length]; omega
          · simp
        have e4 : (if leftOf succ ref = [] then ([] : List (Cd × Nat)) else (if 0 < p.itv then [(Cd.gam, (rws p.itv (leftOf succ ref)).1.length)] else []) ++ (lnm x p.itv none (rws p.itv (leftOf succ ref)).1).map (fun v => (Cd.gam, v)) ++ (znm x none (rws p.itv (leftOf succ ref)).2).map (fun v => (Cd.zet p.zet, v))).length ≤ 65537 := by
          split
          · simp
          · rw [List.length_append, List.length_append, List.length_map, List.length_map, lnm_length, znm_length]
            have e5 : (if 0 < p.itv then [(Cd.gam, (rws p.itv (leftOf succ ref)).1.length)] else ([] : List (Cd × Nat))).length ≤ 1 := by split <;> simp
            omega
        omega
    omega
theorem bits_len_le : ∀ (l : List (Cd × Nat)), (∀ q ∈ l, NumOk q) → (bitsOf l).length ≤ 40 * l.length
  | [], _ => Nat.le_refl _
  | (c, v) :: l, h => by
    have h0 := h _ (List.mem_cons_self ..)
    have := cb_le c h0.1 v h0.2.1 h0.2.2
    have h1 := bits_len_le l (fun q hq => h q (List.mem_cons_of_mem _ hq))
    rw [bitsOf_cons, List.length_append, List.length_cons]
    omega
/-- a list's bits are few -/
theorem lay_len {x : Nat} {succ ref : List Nat} {r : Nat} {p : Pr} (h : MayN x succ ref r p) : (lay x succ ref r p).length ≤ 5243040 := by
  obtain ⟨h1, h2⟩ := nums_ok h
  have := bits_len_le _ h1
  unfold lay
  omega
theorem bitsOf_take (l : List (Cd × Nat)) (i : Nat) (h : i < l.length) : bitsOf (l.take (i + 1)) = bitsOf (l.take i) ++ cb l[i].1 l[i].2 := by
  rw [List.take_succ_eq_append_getElem h, bitsOf_append]
  show _ ++ (cb l[i].1 l[i].2 ++ []) = _
  rw [List.append_nil]
theorem bits_take_le (l : List (Cd × Nat)) (i : Nat) : (bitsOf (l.take i)).length ≤ (bitsOf l).length := by
  have h : l = l.take i ++ l.drop i := (List.take_append_drop i l).symm
  have e : bitsOf l = bitsOf (l.take i) ++ bitsOf (l.drop i) := by rw [← bitsOf_append, ← h]
  rw [e, List.length_append]
  omega
/-- the row of numbers, as it lies -/
theorem nmV_get : ∀ (L : List (Cd × Nat)) (i : Nat) (h : i < L.length), ∃ kd kk, cdV L[i].1 = .agg #[.int .u8 kd, .int .u64 kk] ∧ (nmV L)[i * 3]? = some (.int .u8 kd) ∧ (nmV L)[i * 3 + 1]? = some (.int .u64 kk) ∧ (nmV L)[i * 3 + 2]? = some (.int .u64 (L[i].2 : Int))
  | (c, v) :: L, 0, _ => by
    obtain ⟨kd, kk, h1, h2⟩ := cdC_shape c
    refine ⟨kd, kk, h2, ?_, ?_, ?_⟩ <;> · show (cdC c ++ [Value.int .u64 (v : Int)] ++ nmV L)[_]? = _; rw [h1]; rfl
  | (c, v) :: L, i + 1, h => by
    obtain ⟨kd, kk, h1, h2, h3, h4⟩ := nmV_get L i (by simpa using h)
    obtain ⟨kd', kk', e1, _⟩ := cdC_shape c
    have e : nmV ((c, v) :: L) = .int .u8 kd' :: .int .u64 kk' :: .int .u64 (v : Int) :: nmV L := by show cdC c ++ [Value.int .u64 (v : Int)] ++ nmV L = _; rw [e1]; rfl
    refine ⟨kd, kk, by simpa using h1, ?_, ?_, ?_⟩
    · rw [e, show (i + 1) * 3 = i * 3 + 1 + 1 + 1 by omega, List.getElem?_cons_succ, List.getElem?_cons_succ, List.getElem?_cons_succ]; exact h2
    · rw [e, show (i + 1) * 3 + 1 = i * 3 + 1 + 1 + 1 + 1 by omega, List.getElem?_cons_succ, List.getElem?_cons_succ, List.getElem?_cons_succ]; exact h3
    · rw [e, show (i + 1) * 3 + 2 = i * 3 + 2 + 1 + 1 + 1 by omega, List.getElem?_cons_succ, List.getElem?_cons_succ, List.getElem?_cons_succ]; simpa using h4
theorem NumsP.lies {w w' : World} {L : List (Cd × Nat)} {e : Ending} (h : NumsP w L e w') (h0 : L ≠ []) :
    ∃ (g cap : Nat) (cur : Array Value), e = .returned (.slice (some ⟨g, 0, none⟩) L.length cap) ∧ w.heap.size ≤ g ∧ w'.heap[g]? = some (.cells cur 87 (0, 0)) ∧ Below w.heap.size w w' ∧
      ∀ W : World, W.heap[g]? = some (.cells cur 87 (0, 0)) → ∀ i (hi : i < L.length), ∃ kd kk, cdV L[i].1 = .agg #[.int .u8 kd, .int .u64 kk] ∧ W.cell? ⟨g, i * 3, none⟩ = some (.int .u8 kd) ∧ W.cell? ⟨g, i * 3 + 1, none⟩ = some (.int .u64 kk) ∧ W.cell? ⟨g, i * 3 + 2, none⟩ = some (.int .u64 (L[i].2 : Int)) := by
  obtain ⟨v, rfl, ho, hb⟩ := h
  rcases ho.2 with ⟨_, h2⟩ | ⟨g, cap, cur, rfl, hbg, hcell, hn, hcm, hcs, htake⟩
  · exact absurd (List.eq_nil_of_length_eq_zero h2) h0
  · refine ⟨g, cap, cur, rfl, hbg, hcell, hb, fun W hW i hi => ?_⟩
    obtain ⟨kd, kk, e1, e2, e3, e4⟩ := nmV_get L i hi
    rw [← htake] at e2 e3 e4
    rw [List.getElem?_take_of_lt (by omega)] at e2 e3 e4
    refine ⟨kd, kk, e1, ?_, ?_, ?_⟩
    · rw [cell_of_row _ _ _ _ _ _ hW, ← Array.getElem?_toList]; exact e2
    · rw [cell_of_row _ _ _ _ _ _ hW, ← Array.getElem?_toList]; exact e3
    · rw [cell_of_row _ _ _ _ _ _ hW, ← Array.getElem?_toList]; exact e4
theorem nums_ne (x : Nat) (succ ref : List Nat) (r : Nat) (p : Pr) : nums x succ ref r p ≠ [] := by unfold nums hdN; simp
end Go.Proofs.YtflnpcgnenhogaaDoor.ls
namespace Go.Proofs.YtflnpcgnenhogaaDoor.ls
open Go.RowKit Go.Proofs.YtflnpcgnenhogaaDoor.own Go.Proofs.YtflnpcgnenhogaaDoor.bit

theorem mayN_mayI {x : Nat} {succ ref : List Nat} {r : Nat} {p : Pr} : MayI (p.win : Int) (p.itv : Int) (p.zet : Int) (x : Int) succ ref (r : Int) ↔ MayN x succ ref r p := by
  unfold MayI MayN ParOk Pr.ok
  constructor
  · rintro ⟨⟨h1, h2, h3, h4⟩, ⟨h5, h6⟩, h7, h8, h9, h10, h11⟩
    exact ⟨⟨by omega, by omega, by omega⟩, by omega, h7, h8, by omega, h11.elim (fun h => .inl (by omega)) .inr⟩
  · rintro ⟨⟨h1, h2, h3⟩, h5, h7, h8, h9, h10⟩
    exact ⟨⟨by omega, by omega, by omega, by omega, by omega⟩, by omega, h7, h8, by omega, by omega, h10.elim (fun h => .inl (by omega)) .inr⟩

set_option maxRecDepth 100000 in
set_option maxHeartbeats 6400000 in
theorem lbits_yes (p : Pr) (x : Nat) (w : World) (hG : GL w) (a : Option Addr) (succ : List Nat) (cap : Nat) (b : Option Addr) (ref : List Nat) (capb r : Nat) (hc : succ.length ≤ cap) (hcb : ref.length ≤ capb) (hm : MayN x succ ref r p) (hA : LV w a succ) (hB : LV w b ref) :
    Calls Tryd.prog 9 #[.int .i64 (x : Int), .slice a succ.length cap, .slice b ref.length capb, .int .i64 (r : Int), parV (p.win : Int) (p.itv : Int) (p.zet : Int)] w fun e w' => e = .returned (.tuple #[.int .i64 ((lay x succ ref r p).length : Int), .int .i64 0]) ∧ Below w.heap.size w w' := by
  have MY := Lib.hid (fun W (k : Below w.heap.size w W) => lmay_any (p.win : Int) (p.itv : Int) (p.zet : Int) (x : Int) W a succ cap (hA.below k) b ref capb (hB.below k) (r : Int))
  have NU := Lib.hid (fun W (k : Below w.heap.size w W) => numbers_any p x W (hG.below k) a succ cap b ref capb r hc hcb hm (hA.below k) (hB.below k))
  have YES := Lib.hid (mayN_mayI.2 hm)
  have LL := Lib.hid (lay_len hm)
  obtain ⟨nok, nlen⟩ := nums_ok hm
  have NE := Lib.hid (nums_ne x succ ref r p)
  have LD : Hid (lay x succ ref r p = bitsOf (nums x succ ref r p)) := Lib.hid rfl
  generalize lay x succ ref r p = LB at LL LD ⊢
  generalize nums x succ ref r p = NN at NU nok nlen NE LD
  have NOK := Lib.hid nok
  unfold parV at MY NU ⊢
  clear hG hA hB hm nok
  go_enter Tryd.func9, Tryd.ntmps9
  go_upto_region 1 with fail
  have r1 := heap_alloc_new w (.cells #[.int .i64 (p.win : Int), .int .i64 (p.itv : Int), .int .i64 (p.zet : Int)] 38)
  have kb : Below w.heap.size w (w.alloc (.cells #[.int .i64 (p.win : Int), .int .i64 (p.itv : Int), .int .i64 (p.zet : Int)] 38)) := (by repeat (first | exact Below.refl _ _ | refine below_drewN ?_ _ | refine Below.setCell ?_ (by simp; try omega) _ | refine Below.alloc ?_ (by simp; try omega) _))
  generalize w.alloc _ = W1 at r1 kb ⊢
  have c0 : W1.cell? ⟨w.heap.size, 0, none⟩ = some (.int .i64 (p.win : Int)) := by rw [cell_of_row _ _ _ _ _ _ r1]; rfl
  have c1 : W1.cell? ⟨w.heap.size, 1, none⟩ = some (.int .i64 (p.itv : Int)) := by rw [cell_of_row _ _ _ _ _ _ r1]; rfl
  have c2 : W1.cell? ⟨w.heap.size, 2, none⟩ = some (.int .i64 (p.zet : Int)) := by rw [cell_of_row _ _ _ _ _ _ r1]; rfl
  have KB := Lib.hid kb
  have R1 := Lib.hid r1
  have hl1 := lt_of_block r1
  clear kb r1
  go_wp2_with fail
  with_reducible refine (MY.out _ KB.out).mono ?_
  rintro e w2 ⟨b0, rfl, hb0, k2⟩
  have hb : b0 = true := hb0.2 YES.out
  subst hb
  have K2 := Lib.hid (KB.out.trans (k2.mono KB.out.size))
  have r2 := (k2.block _ hl1).trans R1.out
  clear hb0 c0 c1 c2 k2
  have c0 : w2.cell? ⟨w.heap.size, 0, none⟩ = some (.int .i64 (p.win : Int)) := by rw [cell_of_row _ _ _ _ _ _ r2]; rfl
  have c1 : w2.cell? ⟨w.heap.size, 1, none⟩ = some (.int .i64 (p.itv : Int)) := by rw [cell_of_row _ _ _ _ _ _ r2]; rfl
  have c2 : w2.cell? ⟨w.heap.size, 2, none⟩ = some (.int .i64 (p.zet : Int)) := by rw [cell_of_row _ _ _ _ _ _ r2]; rfl
  clear r2
  go_wp2_with fail
  with_reducible refine (NU.out _ K2.out).mono ?_
  rintro e w3 hN
  obtain ⟨g, cg, cur, rfl, hg1, hg2, hk, CC⟩ := hN.lies NE.out
  have K3 := Lib.hid (K2.out.trans (hk.mono K2.out.size))
  have CC := Lib.hid CC
  have G2 := Lib.hid hg2
  have HK := Lib.hid hk
  clear hN hg1 hg2 hk c0 c1 c2
  obtain ⟨n, hn⟩ : ∃ n, NN.length = n := ⟨_, rfl⟩
  have HN := Lib.hid hn
  rw [hn] at nlen ⊢
  clear hn
  go_wp2_with fail
  go_loopw [12, 31] (fun va vi wr => ∃ i : Nat, vi = .int .i64 (i : Int) ∧ i ≤ n ∧ va = .int .i64 ((bitsOf (NN.take i)).length : Int) ∧ Below w3.heap.size w3 wr) (fun _ vi _ => n - (intOf vi).toNat)
  case atStart => exact ⟨0, rfl, Nat.zero_le _, rfl, Below.refl _ _⟩
  case round =>
    obtain ⟨i, rfl, hi, rfl, hk⟩ := hrel
    have HKR := Lib.hid hk
    by_cases hlt : i < n
    · have hin : i < NN.length := by rw [HN.out]; exact hlt
      obtain ⟨kd, kk, e1, e2, e3, e4⟩ := CC.out wr ((hk.block _ (lt_of_block G2.out)).trans G2.out) i hin
      have hq := NOK.out _ (List.getElem_mem hin)
      have BT := Lib.hid (bitsOf_take NN i hin)
      have BL := bits_take_le NN (i + 1)
      rw [BT.out] at BL
      rw [← LD.out, List.length_append] at BL
      have hll := LL.out
      have CL := Lib.hid (fun W => clen_any NN[i].1 hq.1 NN[i].2 hq.most W)
      rw [e1] at CL
      obtain ⟨v, hv⟩ : ∃ v, NN[i].2 = v := ⟨_, rfl⟩
      rw [hv] at e4 CL
      obtain ⟨cl, hcl⟩ : ∃ cl, (cb NN[i].1 NN[i].2).length = cl := ⟨_, rfl⟩
      have hcl2 := hcl
      rw [hv] at hcl2
      rw [hcl2] at CL
      rw [hcl] at BL
      have HCL := Lib.hid hcl
      obtain ⟨tl, htl⟩ : ∃ tl, (bitsOf (NN.take i)).length = tl := ⟨_, rfl⟩
      rw [htl] at BL ⊢
      have HTL := Lib.hid htl
      have KA : Hid (∀ W, Below (wr.alloc (.cells #[.int .u8 kd, .int .u64 kk, .int .u64 (v : Int)] 87)).heap.size (wr.alloc (.cells #[.int .u8 kd, .int .u64 kk, .int .u64 (v : Int)] 87)) W → Below w3.heap.size w3 W) := Lib.hid (fun W k => HKR.out.trans ((below_alloc k).mono HKR.out.size))
      have i1 : (i : Int) < (n : Int) := by omega
      have i0 : (0 : Int) ≤ (i : Int) := Int.natCast_nonneg i
      have hsum : tl + cl ≤ 5243040 := by omega
      clear hv hcl hcl2 htl hq e1 hk hll BL
      go_wp2_with fail
      with_reducible refine (CL.out _).mono ?_
      rintro e w4 ⟨rfl, k4⟩
      have K4 := Lib.hid (KA.out _ k4)
      clear k4 e2 e3 e4
      go_wp2_with fail
      go_roundw
      case rel => exact ⟨i + 1, by go_num, by omega, by rw [BT.out, List.length_append, HTL.out, HCL.out]; rfl, K4.out⟩
      case measure => simp [intOf]; omega
    · obtain rfl : i = n := by omega
      have FIN : Hid ((bitsOf (NN.take i)).length = LB.length) := Lib.hid (by rw [List.take_of_length_le (by rw [HN.out]; exact Nat.le_refl _), LD.out])
      rw [FIN.out]
      have i1 : ¬ (i : Int) < (i : Int) := by omega
      clear hk
      go_wp2_with fail
      go_ret2
      exact ⟨rfl, K3.out.trans (HKR.out.mono K3.out.size)⟩

set_option maxRecDepth 100000 in
set_option maxHeartbeats 6400000 in
theorem lbits_no (win itv zet x : Int) (w : World) (a : Option Addr) (succ : List Nat) (cap : Nat) (b : Option Addr) (ref : List Nat) (capb : Nat) (r : Int) (hm : ¬ MayI win itv zet x succ ref r) (hA : LV w a succ) (hB : LV w b ref) :
    Calls Tryd.prog 9 #[.int .i64 x, .slice a succ.length cap, .slice b ref.length capb, .int .i64 r, parV win itv zet] w fun e w' => e = .returned (.tuple #[.int .i64 0, .int .i64 1]) ∧ Below w.heap.size w w' := by
  have MY := Lib.hid (fun W (k : Below w.heap.size w W) => lmay_any win itv zet x W a succ cap (hA.below k) b ref capb (hB.below k) r)
  have NO := Lib.hid hm
  unfold parV at MY ⊢
  clear hA hB hm
  go_enter Tryd.func9, Tryd.ntmps9
  go_upto_region 1 with fail
  have r1 := heap_alloc_new w (.cells #[.int .i64 win, .int .i64 itv, .int .i64 zet] 38)
  have kb : Below w.heap.size w (w.alloc (.cells #[.int .i64 win, .int .i64 itv, .int .i64 zet] 38)) := (by repeat (first | exact Below.refl _ _ | refine below_drewN ?_ _ | refine Below.setCell ?_ (by simp; try omega) _ | refine Below.alloc ?_ (by simp; try omega) _))
  generalize w.alloc _ = W1 at r1 kb ⊢
  have c0 : W1.cell? ⟨w.heap.size, 0, none⟩ = some (.int .i64 win) := by rw [cell_of_row _ _ _ _ _ _ r1]; rfl
  have c1 : W1.cell? ⟨w.heap.size, 1, none⟩ = some (.int .i64 itv) := by rw [cell_of_row _ _ _ _ _ _ r1]; rfl
  have c2 : W1.cell? ⟨w.heap.size, 2, none⟩ = some (.int .i64 zet) := by rw [cell_of_row _ _ _ _ _ _ r1]; rfl
  have KB := Lib.hid kb
  clear kb r1
  go_wp2_with fail
  with_reducible refine (MY.out _ KB.out).mono ?_
  rintro e w2 ⟨b0, rfl, hb0, k2⟩
  have hb : b0 = false := by
    cases b0
    · rfl
    · exact absurd (hb0.1 rfl) NO.out
  subst hb
  have K2 := Lib.hid (KB.out.trans (k2.mono KB.out.size))
  clear hb0 c0 c1 c2 k2
  go_wp2_with fail
  go_ret2
  exact ⟨rfl, K2.out⟩
end Go.Proofs.YtflnpcgnenhogaaDoor.ls
namespace Go.Proofs.YtflnpcgnenhogaaDoor.ls
open Go.RowKit Go.Proofs.YtflnpcgnenhogaaDoor.own Go.Proofs.YtflnpcgnenhogaaDoor.bit

/-- a writer and rows beside it, made since w -/
def WE (x : Nat → Nat) (d t u : Nat) (w : World) (wb : Nat) (l : Bits) (ks : List (Nat × Obj)) (W : World) : Prop :=
  ∃ x', Fr x x' (fun e => e = d ∨ e = t ∨ e = u) w W ∧ WrC x' d W wb l ∧ ∀ p ∈ ks, x' p.1 = u ∧ W.heap[p.1]? = some p.2
theorem WE.start {x : Nat → Nat} {d t u : Nat} (hdu : d ≠ u) {w W : World} {wb : Nat} {l : Bits} (h : WrC x d w wb l) (k : Below w.heap.size w W) (ks : List (Nat × Obj)) (hk : ∀ p ∈ ks, w.heap.size ≤ p.1 ∧ W.heap[p.1]? = some p.2) : WE x d t u w wb l ks W := by
  have f2 : Fr x (paint x w.heap.size u) (fun e => e = u) w W := Fr.of_below k rfl
  exact ⟨_, f2.mono (fun c hc => .inr (.inr hc)), h.frame f2 hdu, fun p hp => ⟨paint_new (hk p hp).1, (hk p hp).2⟩⟩
theorem WE.row {x : Nat → Nat} {d t u : Nat} {w W : World} {wb : Nat} {l : Bits} {ks : List (Nat × Obj)} (h : WE x d t u w wb l ks W) {b : Nat} {o : Obj} (hm : (b, o) ∈ ks) : W.heap[b]? = some o := by
  obtain ⟨x', _, _, hk⟩ := h
  exact (hk _ hm).2
theorem WE.next {x : Nat → Nat} {d t u : Nat} (hdu : d ≠ u) {w W W' : World} {wb : Nat} {l : Bits} {ks : List (Nat × Obj)} (h : WE x d t u w wb l ks W) (k : Below W.heap.size W W') : WE x d t u w wb l ks W' := by
  obtain ⟨x', hf, hw, hk⟩ := h
  have f2 : Fr x' (paint x' W.heap.size u) (fun e => e = u) W W' := Fr.of_below k rfl
  refine ⟨_, hf.trans (f2.mono (fun c hc => .inr (.inr hc))), hw.frame f2 hdu, fun p hp => ?_⟩
  obtain ⟨h1, h2⟩ := hk p hp
  exact ⟨(paint_old (lt_of_block h2)).trans h1, (k.block _ (lt_of_block h2)).trans h2⟩
theorem WE.put {x : Nat → Nat} {d t u : Nat} (hdt : d ≠ t) (hdu : d ≠ u) (htu : t ≠ u) {w W : World} {wb : Nat} {l : Bits} {ks : List (Nat × Obj)} (h : WE x d t u w wb l ks W) (c : Cd) (hc : c.ok) (v : Nat) (hv : v ≤ c.most) (hl : l.length + (cb c v).length ≤ 134217728) :
    Calls Tryd.prog 36 #[.pointer (some ⟨wb, 0, none⟩), cdV c, .int .u64 (v : Int)] W fun e w' => e = .returned (.int .i64 0) ∧ WE x d t u w wb (l ++ cb c v) ks w' := by
  obtain ⟨x', hf, hw, hk⟩ := h
  refine (cput_any x' d t hdt c hc v hv W wb l hl hw).mono ?_
  rintro e w' ⟨rfl, x2, f2, h2⟩
  refine ⟨rfl, x2, hf.trans (f2.mono (fun c hc => by rcases hc with h | h; exact .inl h; exact .inr (.inl h))), h2, fun p hp => ?_⟩
  obtain ⟨h1, h3⟩ := hk p hp
  exact ⟨(f2.col _ (lt_of_block h3)).trans h1, (f2.old _ (lt_of_block h3) (by show ¬ (x' p.1 = d ∨ x' p.1 = t); rw [h1]; rintro (e | e); exact hdu e.symm; exact htu e.symm)).trans h3⟩

set_option maxRecDepth 100000 in
set_option maxHeartbeats 6400000 in
theorem lenc_yes (x0 : Nat → Nat) (d t u : Nat) (hdt : d ≠ t) (hdu : d ≠ u) (htu : t ≠ u) (p : Pr) (x : Nat) (w : World) (hG : GL w) (wb : Nat) (l : Bits) (a : Option Addr) (succ : List Nat) (cap : Nat) (b : Option Addr) (ref : List Nat) (capb r : Nat) (hc : succ.length ≤ cap) (hcb : ref.length ≤ capb) (hm : MayN x succ ref r p) (hA : LV w a succ) (hB : LV w b ref)
    (hl : l.length + (lay x succ ref r p).length ≤ 134217728) (hW : WrC x0 d w wb l) :
    Calls Tryd.prog 11 #[.pointer (some ⟨wb, 0, none⟩), .int .i64 (x : Int), .slice a succ.length cap, .slice b ref.length capb, .int .i64 (r : Int), parV (p.win : Int) (p.itv : Int) (p.zet : Int)] w fun e w' =>
      e = .returned (.int .i64 0) ∧ ∃ x', Fr x0 x' (fun e => e = d ∨ e = t ∨ e = u) w w' ∧ WrC x' d w' wb (l ++ lay x succ ref r p) := by
  have BI := Lib.hid (fun W (k : Below w.heap.size w W) => lbits_yes p x W (hG.below k) a succ cap b ref capb r hc hcb hm (hA.below k) (hB.below k))
  have NU := Lib.hid (fun W (k : Below w.heap.size w W) => numbers_any p x W (hG.below k) a succ cap b ref capb r hc hcb hm (hA.below k) (hB.below k))
  have LEN := Lib.hid (fun W (k : Below w.heap.size w W) => len_any (paint x0 w.heap.size u) d W wb l (hW.frame (Fr.of_below (c := u) (C := fun e => e = u) k rfl) hdu))
  have LL := Lib.hid (lay_len hm)
  obtain ⟨nok, nlen⟩ := nums_ok hm
  have NE := Lib.hid (nums_ne x succ ref r p)
  have LD : Hid (lay x succ ref r p = bitsOf (nums x succ ref r p)) := Lib.hid rfl
  generalize lay x succ ref r p = LB at BI LL LD hl ⊢
  generalize nums x succ ref r p = NN at NU nok nlen NE LD
  have NOK := Lib.hid nok
  obtain ⟨lb, hlb⟩ : ∃ k, LB.length = k := ⟨_, rfl⟩
  obtain ⟨ll, hll⟩ : ∃ k, l.length = k := ⟨_, rfl⟩
  rw [hlb] at BI hl
  rw [hll] at LEN hl
  have HLB := Lib.hid hlb
  have HLL := Lib.hid hll
  have HW := Lib.hid hW
  have D := Lib.hid (And.intro hdt (And.intro hdu htu))
  have i1 : ¬ (134217728 : Int) - (ll : Int) < (lb : Int) := by omega
  have i2 : IntKind.i64.wrap ((134217728 : Int) - (ll : Int)) = 134217728 - (ll : Int) := IntWalk.i64_in _ (by omega)
  unfold parV at BI NU ⊢
  clear hG hA hB hm nok hlb hll hW hdt hdu htu
  go_enter Tryd.func11, Tryd.ntmps11
  go_upto_region 1 with fail
  have r1 := heap_alloc_new w (.cells #[.int .i64 (p.win : Int), .int .i64 (p.itv : Int), .int .i64 (p.zet : Int)] 38)
  have kb : Below w.heap.size w (w.alloc (.cells #[.int .i64 (p.win : Int), .int .i64 (p.itv : Int), .int .i64 (p.zet : Int)] 38)) := (by repeat (first | exact Below.refl _ _ | refine below_drewN ?_ _ | refine Below.setCell ?_ (by simp; try omega) _ | refine Below.alloc ?_ (by simp; try omega) _))
  generalize w.alloc _ = W1 at r1 kb ⊢
  have c0 : W1.cell? ⟨w.heap.size, 0, none⟩ = some (.int .i64 (p.win : Int)) := by rw [cell_of_row _ _ _ _ _ _ r1]; rfl
  have c1 : W1.cell? ⟨w.heap.size, 1, none⟩ = some (.int .i64 (p.itv : Int)) := by rw [cell_of_row _ _ _ _ _ _ r1]; rfl
  have c2 : W1.cell? ⟨w.heap.size, 2, none⟩ = some (.int .i64 (p.zet : Int)) := by rw [cell_of_row _ _ _ _ _ _ r1]; rfl
  have KB := Lib.hid kb
  have R1 := Lib.hid r1
  have hl1 := lt_of_block r1
  clear kb r1
  go_wp2_with fail
  with_reducible refine (BI.out _ KB.out).mono ?_
  rintro e w2 ⟨rfl, k2⟩
  have K2 := Lib.hid (KB.out.trans (k2.mono KB.out.size))
  have r2 := (k2.block _ hl1).trans R1.out
  clear c0 c1 c2 k2
  have c0 : w2.cell? ⟨w.heap.size, 0, none⟩ = some (.int .i64 (p.win : Int)) := by rw [cell_of_row _ _ _ _ _ _ r2]; rfl
  have c1 : w2.cell? ⟨w.heap.size, 1, none⟩ = some (.int .i64 (p.itv : Int)) := by rw [cell_of_row _ _ _ _ _ _ r2]; rfl
  have c2 : w2.cell? ⟨w.heap.size, 2, none⟩ = some (.int .i64 (p.zet : Int)) := by rw [cell_of_row _ _ _ _ _ _ r2]; rfl
  clear r2
  go_wp2_with fail
  with_reducible refine (LEN.out _ K2.out).mono ?_
  rintro e w3 ⟨rfl, rfl⟩
  go_wp2_with fail
  with_reducible refine (NU.out _ K2.out).mono ?_
  rintro e w3 hN
  obtain ⟨g, cg, cur, rfl, hg1, hg2, hk, CC⟩ := hN.lies NE.out
  have hk2 := K2.out
  have W0 := Lib.hid (WE.start (t := t) D.out.2.1 HW.out (hk2.trans (hk.mono hk2.size)) [(g, .cells cur 87 (0, 0))] (fun q hq => by
    rcases List.mem_cons.1 hq with rfl | hq
    · exact ⟨Nat.le_trans hk2.size hg1, hg2⟩
    · cases hq))
  have CC := Lib.hid CC
  clear hN hg1 hg2 hk hk2 c0 c1 c2 i1 i2
  obtain ⟨n, hn⟩ : ∃ n, NN.length = n := ⟨_, rfl⟩
  have HN := Lib.hid hn
  rw [hn] at nlen ⊢
  clear hn
  go_wp2_with fail
  go_loopw [45] (fun vi wr => ∃ i : Nat, vi = .int .i64 (i : Int) ∧ i ≤ n ∧ WE x0 d t u w wb (l ++ bitsOf (NN.take i)) [(g, .cells cur 87 (0, 0))] wr) (fun vi _ => n - (intOf vi).toNat)
  case atStart => exact ⟨0, rfl, Nat.zero_le _, by simpa [bitsOf] using W0.out⟩
  case round =>
    obtain ⟨i, rfl, hi, hE⟩ := hrel
    have HE := Lib.hid hE
    clear hE
    by_cases hlt : i < n
    · have hin : i < NN.length := by rw [HN.out]; exact hlt
      obtain ⟨kd, kk, e1, e2, e3, e4⟩ := CC.out wr (HE.out.row (List.mem_cons_self ..)) i hin
      have hq := NOK.out _ (List.getElem_mem hin)
      have BT := Lib.hid (bitsOf_take NN i hin)
      have BL := bits_take_le NN (i + 1)
      rw [BT.out] at BL
      rw [← LD.out, HLB.out, List.length_append] at BL
      have h6 := HE.out.next (u := u) D.out.2.1 ((Below.refl wr.heap.size wr).alloc (Nat.le_refl _) (.cells #[.int .u8 kd, .int .u64 kk, .int .u64 (NN[i].2 : Int)] 87))
      have PU := Lib.hid (h6.put D.out.1 D.out.2.1 D.out.2.2 NN[i].1 hq.1 NN[i].2 hq.most (by rw [List.length_append, HLL.out]; omega))
      rw [e1, List.append_assoc, ← BT.out] at PU
      obtain ⟨v, hv⟩ : ∃ v, NN[i].2 = v := ⟨_, rfl⟩
      rw [hv] at e4 PU
      have i1 : (i : Int) < (n : Int) := by omega
      have i0 : (0 : Int) ≤ (i : Int) := Int.natCast_nonneg i
      clear hv hq e1 BL h6
      go_wp2_with fail
      with_reducible refine PU.out.mono ?_
      rintro e w4 ⟨rfl, h4⟩
      have H4 := Lib.hid h4
      clear h4 e2 e3 e4
      go_wp2_with fail
      go_roundw
      case rel => exact ⟨i + 1, by go_num, by omega, H4.out⟩
      case measure => simp [intOf]; omega
    · obtain rfl : i = n := by omega
      have FIN : Hid (l ++ bitsOf (NN.take i) = l ++ LB) := Lib.hid (by rw [List.take_of_length_le (by rw [HN.out]; exact Nat.le_refl _), LD.out])
      have i1 : ¬ (i : Int) < (i : Int) := by omega
      go_wp2_with fail
      go_ret
      obtain ⟨x', h1, h2, _⟩ := HE.out
      rw [FIN.out] at h2
      exact ⟨rfl, x', h1, h2⟩

set_option maxRecDepth 100000 in
set_option maxHeartbeats 3200000 in
theorem lenc_no (wb : Nat) (win itv zet x : Int) (w : World) (a : Option Addr) (succ : List Nat) (cap : Nat) (b : Option Addr) (ref : List Nat) (capb : Nat) (r : Int) (hm : ¬ MayI win itv zet x succ ref r) (hA : LV w a succ) (hB : LV w b ref) :
    Calls Tryd.prog 11 #[.pointer (some ⟨wb, 0, none⟩), .int .i64 x, .slice a succ.length cap, .slice b ref.length capb, .int .i64 r, parV win itv zet] w fun e w' => e = .returned (.int .i64 1) ∧ Below w.heap.size w w' := by
  have BI := Lib.hid (fun W (k : Below w.heap.size w W) => lbits_no win itv zet x W a succ cap b ref capb r hm (hA.below k) (hB.below k))
  unfold parV at BI ⊢
  clear hA hB hm
  go_enter Tryd.func11, Tryd.ntmps11
  go_upto_region 1 with fail
  have r1 := heap_alloc_new w (.cells #[.int .i64 win, .int .i64 itv, .int .i64 zet] 38)
  have kb : Below w.heap.size w (w.alloc (.cells #[.int .i64 win, .int .i64 itv, .int .i64 zet] 38)) := (by repeat (first | exact Below.refl _ _ | refine below_drewN ?_ _ | refine Below.setCell ?_ (by simp; try omega) _ | refine Below.alloc ?_ (by simp; try omega) _))
  generalize w.alloc _ = W1 at r1 kb ⊢
  have c0 : W1.cell? ⟨w.heap.size, 0, none⟩ = some (.int .i64 win) := by rw [cell_of_row _ _ _ _ _ _ r1]; rfl
  have c1 : W1.cell? ⟨w.heap.size, 1, none⟩ = some (.int .i64 itv) := by rw [cell_of_row _ _ _ _ _ _ r1]; rfl
  have c2 : W1.cell? ⟨w.heap.size, 2, none⟩ = some (.int .i64 zet) := by rw [cell_of_row _ _ _ _ _ _ r1]; rfl
  have KB := Lib.hid kb
  clear kb r1
  go_wp2_with fail
  with_reducible refine (BI.out _ KB.out).mono ?_
  rintro e w2 ⟨rfl, k2⟩
  have K2 := Lib.hid (KB.out.trans (k2.mono KB.out.size))
  clear c0 c1 c2 k2
  go_wp2_with fail
  go_ret
  exact ⟨rfl, K2.out⟩
end Go.Proofs.YtflnpcgnenhogaaDoor.ls
namespace Go.Proofs.YtflnpcgnenhogaaDoor.bit
open Go.RowKit Go.Proofs.YtflnpcgnenhogaaDoor.own

theorem ropen_any (x : Nat → Nat) (c : Nat) (s : ByteArray) (hs : s.size ≤ 1152921504606846975) (w : World) :
    Calls Tryd.prog 20 #[.string s] w fun e w' => ∃ rb x', e = .returned (.pointer (some ⟨rb, 0, none⟩)) ∧ Fr x x' (fun e => e = c) w w' ∧ RdC x' c w' rb s 0 ∧ w.heap.size ≤ rb ∧ Below w.heap.size w w' := by
  go_enter Tryd.func20, Tryd.ntmps20
  go_wp2_with fail
  go_ret
  have hb : Below w.heap.size w (w.alloc (.cells #[.string s, .int .i64 0] 93)) := (Below.refl _ _).alloc (Nat.le_refl _) _
  exact ⟨w.heap.size, paint x w.heap.size c, rfl, Fr.of_below hb rfl, ⟨heap_alloc_new w _, paint_new (Nat.le_refl _), Nat.zero_le _, hs⟩, Nat.le_refl _, hb⟩

set_option maxRecDepth 100000 in
theorem Seek_any (x : Nat → Nat) (c : Nat) (s : ByteArray) (a at_ rb : Nat) (w : World) (h : RdC x c w rb s a) (hat : at_ ≤ 8 * s.size) :
    Calls Tryd.prog 40 #[.pointer (some ⟨rb, 0, none⟩), .int .i64 (at_ : Int)] w fun e w' => e = .returned (.int .i64 0) ∧ Fr x x (fun e => e = c) w w' ∧ RdC x c w' rb s at_ := by
  obtain ⟨h0, hx, ha, hs⟩ := h
  have H0 := Lib.hid h0
  have c0 : w.cell? ⟨rb, 0, none⟩ = some (.string s) := by rw [cell_of_row w rb _ _ _ _ h0]; rfl
  have c1 : w.cell? ⟨rb, 1, none⟩ = some (.int .i64 (a : Int)) := by rw [cell_of_row w rb _ _ _ _ h0]; rfl
  have cf : ∀ j, w.frozen? ⟨rb, j, none⟩ = false := fun j => frozen_of_row w rb j _ _ h0
  have hw1 : IntKind.i64.wrap (8 * (s.size : Int)) = 8 * (s.size : Int) := IntWalk.i64_in _ (by omega)
  have i1 : ¬ (at_ : Int) < 0 := by omega
  have i2 : ¬ 8 * (s.size : Int) < (at_ : Int) := by omega
  clear h0
  go_enter Tryd.func40, Tryd.ntmps40
  go_wp2_with fail
  go_ret
  have hrow := heap_setCell_same w rb 1 _ _ (.int .i64 (at_ : Int)) H0.out
  exact ⟨rfl, Fr.same rfl rfl rfl (by simp) (fun d _ hd => Below.heap_setCell _ _ _ _ (fun e => hd (by rw [e]; exact hx))), by rw [hrow]; rfl, hx, hat, hs⟩
end Go.Proofs.YtflnpcgnenhogaaDoor.bit
namespace Go.Proofs.YtflnpcgnenhogaaDoor.ls
open Go.RowKit Go.Proofs.YtflnpcgnenhogaaDoor.own Go.Proofs.YtflnpcgnenhogaaDoor.bit

theorem below_drewN {B : Nat} {w w' : World} (h : Below B w w') (n : Nat) : Below B w (w'.drewN n) := ⟨h.os, h.tape, h.output, h.size, h.block⟩
set_option maxRecDepth 100000 in
theorem Take_no (x : Nat → Nat) (c : Nat) (w : World) (rb : Nat) (s : ByteArray) (a n : Nat) (hn : n ≤ 64) (ha : 8 * s.size < a + n) (h : RdC x c w rb s a) :
    Calls Tryd.prog 77 #[.pointer (some ⟨rb, 0, none⟩), .int .i64 (n : Int)] w fun e w' => e = .returned (.tuple #[.int .u64 0, .int .i64 4]) ∧ Below w.heap.size w w' := by
  obtain ⟨h0, hx, hb, hs⟩ := h
  have hrl := lt_of_block h0
  have W1 : Hid (RdC (paint x w.heap.size c) c (w.alloc (.cells #[.pointer (some ⟨rb, 0, none⟩)] 52)) rb s a) := Lib.hid ⟨(Below.heap_alloc _ _ _ hrl).trans h0, by rw [paint_old hrl]; exact hx, hb, hs⟩
  clear h0
  have i1 : decide ((n : Int) < 0) = false := decide_eq_false (by omega)
  have i2 : decide ((64 : Int) < (n : Int)) = false := decide_eq_false (by omega)
  have i3 : decide (8 * s.size - a < n) = true := decide_eq_true (by omega)
  have i4 : decide (((8 * s.size - a : Nat) : Int) < (n : Int)) = true := decide_eq_true (by omega)
  go_enter Tryd.func77, Tryd.ntmps77
  go_wp2_with fail
  refine (left_any _ c _ rb s a W1.out).mono ?_
  rintro e w1 ⟨rfl, m1, rfl⟩
  go_wp2_with fail
  go_ret2
  exact ⟨rfl, below_drewN ((Below.refl _ _).alloc (Nat.le_refl _) _) m1⟩

/-- a reading in memory, its reader and rows beside: what was read since w -/
def RQ (x : Nat → Nat) (d t : Nat) (w : World) (rb qb : Nat) (s : ByteArray) (a : Nat) (bad : Bool) (ks : List (Nat × Obj)) (W : World) : Prop :=
  ∃ x', Fr x x' (fun e => e = d ∨ e = t) w W ∧ RdC x' d W rb s a ∧ (x' qb = t ∧ W.heap[qb]? = some (.cells #[.pointer (some ⟨rb, 0, none⟩), .bool bad] 148 (0, 0))) ∧ ∀ p ∈ ks, x' p.1 = t ∧ p.1 ≠ qb ∧ W.heap[p.1]? = some p.2
theorem RQ.row {x : Nat → Nat} {d t : Nat} {w W : World} {rb qb a : Nat} {s : ByteArray} {bad : Bool} {ks : List (Nat × Obj)} (h : RQ x d t w rb qb s a bad ks W) {b : Nat} {o : Obj} (hm : (b, o) ∈ ks) : W.heap[b]? = some o := by
  obtain ⟨x', _, _, _, hk⟩ := h
  exact (hk _ hm).2.2
theorem RQ.le {x : Nat → Nat} {d t : Nat} {w W : World} {rb qb a : Nat} {s : ByteArray} {bad : Bool} {ks : List (Nat × Obj)} (h : RQ x d t w rb qb s a bad ks W) : a ≤ 8 * s.size := by
  obtain ⟨x', _, hr, _⟩ := h
  exact hr.2.2.1
theorem RQ.q {x : Nat → Nat} {d t : Nat} {w W : World} {rb qb a : Nat} {s : ByteArray} {bad : Bool} {ks : List (Nat × Obj)} (h : RQ x d t w rb qb s a bad ks W) : W.heap[qb]? = some (.cells #[.pointer (some ⟨rb, 0, none⟩), .bool bad] 148 (0, 0)) := by
  obtain ⟨x', _, _, hq, _⟩ := h
  exact hq.2
theorem RQ.next {x : Nat → Nat} {d t : Nat} {w W W' : World} {rb qb a : Nat} {s : ByteArray} {bad : Bool} {ks : List (Nat × Obj)} (h : RQ x d t w rb qb s a bad ks W) (k : Below W.heap.size W W') : RQ x d t w rb qb s a bad ks W' := by
  obtain ⟨x', hf, ⟨hr1, hr2, hr3⟩, ⟨hq1, hq2⟩, hk⟩ := h
  have f2 : Fr x' (paint x' W.heap.size t) (fun e => e = t) W W' := Fr.of_below k rfl
  refine ⟨_, hf.trans (f2.mono (fun c hc => .inr hc)), ⟨(k.block _ (lt_of_block hr1)).trans hr1, (paint_old (lt_of_block hr1)).trans hr2, hr3⟩, ⟨(paint_old (lt_of_block hq2)).trans hq1, (k.block _ (lt_of_block hq2)).trans hq2⟩, fun p hp => ?_⟩
  obtain ⟨h1, h2, h3⟩ := hk p hp
  exact ⟨(paint_old (lt_of_block h3)).trans h1, h2, (k.block _ (lt_of_block h3)).trans h3⟩
theorem RQ.keep {x : Nat → Nat} {d t : Nat} {w W : World} {rb qb a : Nat} {s : ByteArray} {bad : Bool} {ks : List (Nat × Obj)} (h : RQ x d t w rb qb s a bad ks W) (row : Array Value) (T : TypeId) : RQ x d t w rb qb s a bad ((W.heap.size, .cells row T (0, 0)) :: ks) (W.alloc (.cells row T)) := by
  have hq := lt_of_block h.q
  obtain ⟨x', hf, ⟨hr1, hr2, hr3⟩, ⟨hq1, hq2⟩, hk⟩ := h
  have k : Below W.heap.size W (W.alloc (.cells row T)) := (Below.refl _ _).alloc (Nat.le_refl _) _
  have f2 : Fr x' (paint x' W.heap.size t) (fun e => e = t) W (W.alloc (.cells row T)) := Fr.of_below k rfl
  refine ⟨_, hf.trans (f2.mono (fun c hc => .inr hc)), ⟨(k.block _ (lt_of_block hr1)).trans hr1, (paint_old (lt_of_block hr1)).trans hr2, hr3⟩, ⟨(paint_old (lt_of_block hq2)).trans hq1, (k.block _ (lt_of_block hq2)).trans hq2⟩, fun p hp => ?_⟩
  rcases List.mem_cons.1 hp with rfl | hp
  · exact ⟨paint_new (Nat.le_refl _), fun e => by simp only at e; omega, heap_alloc_new W _⟩
  · obtain ⟨h1, h2, h3⟩ := hk p hp
    exact ⟨(paint_old (lt_of_block h3)).trans h1, h2, (k.block _ (lt_of_block h3)).trans h3⟩
theorem RQ.less {x : Nat → Nat} {d t : Nat} {w W : World} {rb qb a : Nat} {s : ByteArray} {bad : Bool} {p : Nat × Obj} {ks : List (Nat × Obj)} (h : RQ x d t w rb qb s a bad (p :: ks) W) : RQ x d t w rb qb s a bad ks W := by
  obtain ⟨x', hf, hr, hq, hk⟩ := h
  exact ⟨x', hf, hr, hq, fun q hq => hk q (List.mem_cons_of_mem _ hq)⟩
theorem RQ.drewN {x : Nat → Nat} {d t : Nat} {w W : World} {rb qb a : Nat} {s : ByteArray} {bad : Bool} {ks : List (Nat × Obj)} (h : RQ x d t w rb qb s a bad ks W) (n : Nat) : RQ x d t w rb qb s a bad ks (W.drewN n) := h.next ⟨rfl, rfl, rfl, Nat.le_refl _, fun _ _ => rfl⟩
theorem RQ.mark {x : Nat → Nat} {d t : Nat} {w W : World} {rb qb a : Nat} {s : ByteArray} {bad : Bool} {ks : List (Nat × Obj)} (h : RQ x d t w rb qb s a bad ks W) (hdt : d ≠ t) (bad' : Bool) : RQ x d t w rb qb s a bad' ks (W.setCell ⟨qb, 1, none⟩ (.bool bad')) := by
  obtain ⟨x', hf, ⟨hr1, hr2, hr3⟩, ⟨hq1, hq2⟩, hk⟩ := h
  have ne : ∀ b, b ≠ qb → (W.setCell ⟨qb, 1, none⟩ (.bool bad')).heap[b]? = W.heap[b]? := fun b hb' => Below.heap_setCell W ⟨qb, 1, none⟩ _ b hb'
  have f2 : Fr x' x' (fun c => c = t) W (W.setCell ⟨qb, 1, none⟩ (.bool bad')) := Fr.same rfl rfl rfl (by simp) (fun b _ hd => ne b (fun e => hd (by rw [e]; exact hq1)))
  refine ⟨x', hf.trans (f2.mono (fun c hc => .inr hc)), ⟨(ne _ (fun e => by rw [e] at hr2; exact hdt (hr2.symm.trans hq1))).trans hr1, hr2, hr3⟩, ⟨hq1, ?_⟩, fun p hp => ?_⟩
  · rw [heap_setCell_same W qb 1 _ _ _ hq2]; rfl
  · obtain ⟨h1, h2, h3⟩ := hk p hp
    exact ⟨h1, h2, (ne _ h2).trans h3⟩
theorem RQ.bits {x : Nat → Nat} {d t : Nat} {w W : World} {rb qb a : Nat} {s : ByteArray} {bad : Bool} {ks : List (Nat × Obj)} (h : RQ x d t w rb qb s a bad ks W) (hdt : d ≠ t) (n : Nat) (hn : n ≤ 64) (ha : a + n ≤ 8 * s.size) :
    Calls Tryd.prog 77 #[.pointer (some ⟨rb, 0, none⟩), .int .i64 (n : Int)] W fun e w' =>
      e = .returned (.tuple #[.int .u64 ((num (((unpack (nats s)).drop a).take n) : Nat) : Int), .int .i64 0]) ∧ RQ x d t w rb qb s (a + n) bad ks w' := by
  obtain ⟨x', hf, hr, ⟨hq1, hq2⟩, hk⟩ := h
  refine (Take_any x' d W rb s a n hn ha hr).mono ?_
  rintro e w' ⟨rfl, x2, f2, h2⟩
  have nd : ∀ b, x' b = t → ¬ x' b = d := fun b hb e => hdt (e.symm.trans hb)
  refine ⟨rfl, x2, hf.trans (f2.mono (fun c hc => .inl hc)), h2, ⟨(f2.col _ (lt_of_block hq2)).trans hq1, (f2.old _ (lt_of_block hq2) (nd _ hq1)).trans hq2⟩, fun p hp => ?_⟩
  obtain ⟨h1, h3, h4⟩ := hk p hp
  exact ⟨(f2.col _ (lt_of_block h4)).trans h1, h3, (f2.old _ (lt_of_block h4) (nd _ h1)).trans h4⟩
theorem RQ.nobits {x : Nat → Nat} {d t : Nat} {w W : World} {rb qb a : Nat} {s : ByteArray} {bad : Bool} {ks : List (Nat × Obj)} (h : RQ x d t w rb qb s a bad ks W) (n : Nat) (hn : n ≤ 64) (ha : 8 * s.size < a + n) :
    Calls Tryd.prog 77 #[.pointer (some ⟨rb, 0, none⟩), .int .i64 (n : Int)] W fun e w' => e = .returned (.tuple #[.int .u64 0, .int .i64 4]) ∧ RQ x d t w rb qb s a bad ks w' := by
  obtain ⟨x', _, hr, _⟩ := id h
  refine (Take_no x' d W rb s a n hn ha hr).mono ?_
  rintro e w' ⟨rfl, k⟩
  exact ⟨rfl, h.next k⟩

/-- what bits tell, and where the reader is then -/
def tkP (s : ByteArray) (a n : Nat) : Nat × Nat := if a + n ≤ 8 * s.size then (num (((unpack (nats s)).drop a).take n), a + n) else (0, a)
set_option maxRecDepth 100000 in
set_option maxHeartbeats 1600000 in
theorem qtake_any (x : Nat → Nat) (d t : Nat) (hdt : d ≠ t) (w : World) (rb qb : Nat) (s : ByteArray) (a n : Nat) (hn : n ≤ 64) (bad : Bool) (ks : List (Nat × Obj)) (W : World) (h : RQ x d t w rb qb s a bad ks W) :
    Calls Tryd.prog 93 #[.pointer (some ⟨qb, 0, none⟩), .int .i64 (n : Int)] W fun e w' =>
      e = .returned (.int .u64 ((tkP s a n).1 : Int)) ∧ RQ x d t w rb qb s (tkP s a n).2 (bad || decide (8 * s.size < a + n)) ks w' := by
  have q0 := h.q
  have c0 : W.cell? ⟨qb, 0, none⟩ = some (.pointer (some ⟨rb, 0, none⟩)) := by rw [cell_of_row _ _ _ _ _ _ q0]; rfl
  clear q0
  by_cases ha : a + n ≤ 8 * s.size
  · have BI := Lib.hid (h.bits hdt n hn ha)
    have e1 : tkP s a n = (num (((unpack (nats s)).drop a).take n), a + n) := by unfold tkP; rw [if_pos ha]
    rw [e1, decide_eq_false (by omega), Bool.or_false]
    dsimp only
    generalize num (((unpack (nats s)).drop a).take n) = v at BI ⊢
    clear h e1 ha
    go_enter Tryd.func93, Tryd.ntmps93
    go_wp2_with fail
    refine BI.out.mono ?_
    rintro e w1 ⟨rfl, h1⟩
    have H1 := Lib.hid (h1.mark hdt bad)
    have q1 := h1.q
    have c1 : w1.cell? ⟨qb, 1, none⟩ = some (.bool bad) := by rw [cell_of_row _ _ _ _ _ _ q1]; rfl
    have f1 : ∀ j, w1.frozen? ⟨qb, j, none⟩ = false := fun j => frozen_of_row w1 qb j _ _ q1
    clear h1 q1
    cases bad
    · go_wp2_with fail
      go_ret
      exact ⟨rfl, H1.out⟩
    · go_wp2_with fail
      go_ret
      exact ⟨rfl, H1.out⟩
  · have BI := Lib.hid (h.nobits n hn (by omega))
    have e1 : tkP s a n = (0, a) := by unfold tkP; rw [if_neg ha]
    rw [e1, decide_eq_true (by omega), Bool.or_true]
    dsimp only
    clear h e1 ha
    go_enter Tryd.func93, Tryd.ntmps93
    go_wp2_with fail
    refine BI.out.mono ?_
    rintro e w1 ⟨rfl, h1⟩
    have H1 := Lib.hid (h1.mark hdt true)
    have q1 := h1.q
    have c1 : w1.cell? ⟨qb, 1, none⟩ = some (.bool bad) := by rw [cell_of_row _ _ _ _ _ _ q1]; rfl
    have f1 : ∀ j, w1.frozen? ⟨qb, j, none⟩ = false := fun j => frozen_of_row w1 qb j _ _ q1
    clear h1 q1
    cases bad
    · go_wp2_with fail
      go_ret
      exact ⟨rfl, H1.out⟩
    · go_wp2_with fail
      go_ret
      exact ⟨rfl, H1.out⟩

theorem bits_len (s : ByteArray) : (unpack (nats s)).length = 8 * s.size := by rw [unpack_length, nats_length]
theorem zer_step (f : Nat) (B : Bits) (a : Nat) : zer (f + 1) (B.drop a) = if B.length < a + 1 then none else if num ((B.drop a).take 1) = 1 then some 0 else (zer f (B.drop (a + 1))).map (· + 1) := by
  by_cases h : a < B.length
  · rw [if_neg (by omega), List.drop_eq_getElem_cons h, zer]
    cases B[a] <;> simp [num]
  · rw [if_pos (by omega), List.drop_eq_nil_of_le (by omega), zer]
/-- what reading zeros leaves -/
def zerP (a : Nat) (o : Option Nat) (v a' : Nat) (bad : Bool) : Prop :=
  match o with
  | some n => v = n ∧ a' = a + n + 1 ∧ bad = false
  | none => v = 0 ∧ bad = true
set_option maxRecDepth 100000 in
set_option maxHeartbeats 1600000 in
theorem zeros_any (x : Nat → Nat) (d t : Nat) (hdt : d ≠ t) (w : World) (rb qb : Nat) (s : ByteArray) (a most : Nat) (hm : most ≤ 65535) (ks : List (Nat × Obj)) (W : World) (h : RQ x d t w rb qb s a false ks W) :
    Calls Tryd.prog 91 #[.pointer (some ⟨qb, 0, none⟩), .int .i64 (most : Int)] W fun e w' =>
      ∃ v a' : Nat, ∃ bad : Bool, e = .returned (.int .i64 (v : Int)) ∧ zerP a (zer (most + 1) ((unpack (nats s)).drop a)) v a' bad ∧ RQ x d t w rb qb s a' bad ks w' := by
  have H := Lib.hid h
  obtain ⟨o, ho⟩ : ∃ o, zer (most + 1) ((unpack (nats s)).drop a) = o := ⟨_, rfl⟩
  have HO := Lib.hid ho
  rw [ho]
  clear h ho
  go_enter Tryd.func91, Tryd.ntmps91
  go_wp2_with fail
  go_loopw [5] (fun vi wr => ∃ i a2 : Nat, ∃ bad, vi = .int .i64 (i : Int) ∧ i ≤ most + 1 ∧ RQ x d t w rb qb s a2 bad ks wr ∧ ((bad = false ∧ a2 = a + i ∧ o = (zer (most + 1 - i) ((unpack (nats s)).drop (a + i))).map (· + i)) ∨ (bad = true ∧ o = none))) (fun vi _ => most + 2 - (intOf vi).toNat)
  case atStart => exact ⟨0, a, false, rfl, Nat.zero_le _, H.out, .inl ⟨rfl, rfl, by rw [← HO.out]; simp⟩⟩
  case round =>
    obtain ⟨i, a2, bad, rfl, hi, hR, hc⟩ := hrel
    have q1 := hR.q
    have c1 : wr.cell? ⟨qb, 1, none⟩ = some (.bool bad) := by rw [cell_of_row _ _ _ _ _ _ q1]; rfl
    have f1 : ∀ j, wr.frozen? ⟨qb, j, none⟩ = false := fun j => frozen_of_row wr qb j _ _ q1
    clear q1
    by_cases hlt : i ≤ most
    · have hle : (i : Int) ≤ (most : Int) := by omega
      have hd : decide ((i : Int) ≤ (most : Int)) = true := decide_eq_true hle
      cases bad
      · obtain ⟨-, ha2, ho⟩ := hc.resolve_right (fun h => by cases h.1)
        subst ha2
        have TK := Lib.hid (qtake_any x d t hdt w rb qb s (a + i) 1 (by decide) false ks wr hR)
        have ZS := Lib.hid (zer_step (most - i) (unpack (nats s)) (a + i))
        rw [bits_len, show most - i + 1 = most + 1 - i by omega] at ZS
        rw [ZS.out] at ho
        have HOO := Lib.hid ho
        clear ho hc hR
        have w1 : IntKind.i64.wrap ((i : Int) + 1) = ((i + 1 : Nat) : Int) := by rw [IntWalk.i64_in _ (by omega)]; omega
        obtain ⟨tv, ta, htk⟩ : ∃ tv ta, tkP s (a + i) 1 = (tv, ta) := ⟨_, _, rfl⟩
        have htk2 := htk
        rw [htk] at TK
        dsimp only at TK
        unfold tkP at htk2
        by_cases hl : a + i + 1 ≤ 8 * s.size
        · rw [if_pos hl] at htk2
          obtain ⟨rfl, rfl⟩ := Prod.mk.inj htk2
          rw [decide_eq_false (by omega)] at TK
          rw [if_neg (by omega)] at HOO
          obtain ⟨tb, htb⟩ : ∃ b, num (((unpack (nats s)).drop (a + i)).take 1) = b := ⟨_, rfl⟩
          rw [htb] at TK HOO
          clear htk htk2 htb hl
          by_cases h1 : tb = 1
          · subst h1
            have OO := HOO.out
            rw [if_pos rfl] at OO
            have OO2 := Lib.hid OO
            clear HOO OO
            go_wp2_with fail
            refine TK.out.mono ?_
            rintro e w2 ⟨rfl, h2⟩
            have H2 := Lib.hid h2
            clear h2
            go_wp2_with fail
            go_ret
            refine ⟨i, a + i + 1, false, rfl, ?_, H2.out⟩
            rw [OO2.out]
            show _ = 0 + i ∧ a + i + 1 = a + (0 + i) + 1 ∧ _
            exact ⟨by omega, by omega, rfl⟩
          · have OO := HOO.out
            rw [if_neg h1] at OO
            have OO2 := Lib.hid OO
            have hb1 : ((tb : Int) == 1) = false := beq_eq_false_iff_ne.2 (by omega)
            clear HOO OO
            go_wp2_with fail
            refine TK.out.mono ?_
            rintro e w2 ⟨rfl, h2⟩
            have H2 := Lib.hid h2
            clear h2
            go_wp2_with fail
            go_roundw
            case rel =>
              refine ⟨i + 1, a + i + 1, false, by go_num, by omega, H2.out, .inl ⟨rfl, by omega, ?_⟩⟩
              rw [OO2.out, Option.map_map, show most - i = most + 1 - (i + 1) by omega, Nat.add_assoc]
              congr 1
              funext k
              show k + 1 + i = k + (i + 1)
              omega
            case measure => simp [intOf]; omega
        · rw [if_neg hl] at htk2
          obtain ⟨rfl, rfl⟩ := Prod.mk.inj htk2
          rw [decide_eq_true (by omega)] at TK
          have OO := HOO.out
          rw [if_pos (by omega)] at OO
          have OO2 := Lib.hid OO
          have hb1 : ((0 : Int) == 1) = false := rfl
          clear HOO OO htk htk2 hl
          go_wp2_with fail
          refine TK.out.mono ?_
          rintro e w2 ⟨rfl, h2⟩
          have H2 := Lib.hid h2
          clear h2
          go_wp2_with fail
          go_roundw
          case rel => exact ⟨i + 1, a + i, true, by go_num, by omega, H2.out, .inr ⟨rfl, OO2.out⟩⟩
          case measure => simp [intOf]; omega
      · obtain ⟨-, ho⟩ := hc.resolve_left (fun h => by cases h.1)
        have HR := Lib.hid (hR.mark hdt true)
        clear hR hc
        go_wp2_with fail
        go_ret
        exact ⟨0, a2, true, rfl, by rw [ho]; exact ⟨rfl, rfl⟩, HR.out⟩
    · have hle : ¬ (i : Int) ≤ (most : Int) := by omega
      have hd : decide ((i : Int) ≤ (most : Int)) = false := decide_eq_false hle
      have ho : o = none := by
        rcases hc with ⟨_, _, h⟩ | ⟨_, h⟩
        · rw [h, show most + 1 - i = 0 by omega]; rfl
        · exact h
      have HR := Lib.hid (hR.mark hdt true)
      clear hR hc
      go_wp2_with fail
      go_ret
      exact ⟨0, rfl, a2, .inr ⟨⟨rfl, rfl⟩, HR.out⟩⟩
end Go.Proofs.YtflnpcgnenhogaaDoor.ls
namespace Go.Proofs.YtflnpcgnenhogaaDoor.ls
open Go.RowKit Go.Proofs.YtflnpcgnenhogaaDoor.own Go.Proofs.YtflnpcgnenhogaaDoor.bit

/-- what reading leaves: what the bits say, or a mark -/
def ReadP (x : Nat → Nat) (d t : Nat) (w : World) (rb qb : Nat) (s : ByteArray) (a : Nat) (bad : Bool) (ks : List (Nat × Obj)) (o : Option (Nat × Nat)) (e : Ending) (w' : World) : Prop :=
  ∃ v a' : Nat, ∃ bad' : Bool, e = .returned (.int .u64 (v : Int)) ∧ v < 18446744073709551616 ∧ RQ x d t w rb qb s a' bad' ks w' ∧ (bad = true → bad' = true) ∧ (bad = false → match o with | some q => v = q.1 ∧ a' = a + q.2 ∧ bad' = false | none => bad' = true)
theorem tkP_ok {s : ByteArray} {a n : Nat} (h : a + n ≤ 8 * s.size) : tkP s a n = (num (((unpack (nats s)).drop a).take n), a + n) := if_pos h
theorem take_succ_num (B : Bits) (n : Nat) (h : n < B.length) : num (B.take (n + 1)) = 2 * num (B.take n) + num ((B.drop n).take 1) := by
  rw [List.take_add, num_append, List.length_take, List.length_drop, Nat.min_eq_left (by omega), Nat.pow_one, Nat.mul_comm]
set_option maxRecDepth 100000 in
set_option maxHeartbeats 3200000 in
theorem qshort_any (x : Nat → Nat) (d t : Nat) (hdt : d ≠ t) (w : World) (rb qb : Nat) (s : ByteArray) (a k : Nat) (hk : 1 ≤ k) (hk2 : k ≤ 9223372036854775808) (bad : Bool) (ks : List (Nat × Obj)) (W : World) (h : RQ x d t w rb qb s a bad ks W) :
    Calls Tryd.prog 94 #[.pointer (some ⟨qb, 0, none⟩), .int .u64 (k : Int)] W (ReadP x d t w rb qb s a bad ks (mread k ((unpack (nats s)).drop a))) := by
  have LN := Lib.hid (fun W => Tryd.bits_Len64 ((k - 1 : Nat) : Int) W (by omega) (by omega))
  rw [Int.toNat_natCast, bitLen_clog k hk hk2] at LN
  have e1 : IntKind.u64.wrap ((k : Int) - 1) = ((k - 1 : Nat) : Int) := u64_sub k 1 hk hk2
  obtain ⟨o, ho⟩ : ∃ o, mread k ((unpack (nats s)).drop a) = o := ⟨_, rfl⟩
  have HO := Lib.hid ho
  rw [ho]
  unfold mread at HO
  rw [List.length_drop, bits_len] at HO
  have h1 := @clog_le k
  have h2 : clog k ≤ 63 := clog_pow (by rw [show (2 : Nat) ^ 63 = 9223372036854775808 from rfl]; exact hk2)
  have h3 : (2 : Nat) ^ clog k ≤ 9223372036854775808 := pow63 h2
  have hle := h.le
  obtain ⟨c, hc⟩ : ∃ c, clog k = c := ⟨_, rfl⟩
  rw [hc] at LN HO h1 h2 h3
  obtain ⟨pw, hpw⟩ : ∃ pw, 2 ^ c = pw := ⟨_, rfl⟩
  rw [hpw] at HO h1 h3
  have H := Lib.hid h
  clear hc ho h
  by_cases c0 : c = 0
  · subst c0
    have OO := HO.out
    rw [if_pos rfl] at OO
    clear h1 h2 h3 hpw HO hle
    go_enter Tryd.func94, Tryd.ntmps94
    go_wp2_with fail
    refine (LN.out _).mono ?_
    rintro e w1 ⟨rfl, rfl⟩
    go_wp2_with fail
    go_ret
    exact ⟨0, a, bad, rfl, by decide, H.out, fun h => h, fun h => by subst OO; exact ⟨rfl, rfl, h⟩⟩
  · have hm : 2 ^ c - k < 2 ^ c := by omega
    have cc : ((c : Int) == 0) = false := beq_eq_false_iff_ne.2 (by omega)
    have f1 : min c 64 = c := Nat.min_eq_left (by omega)
    have f2 := u64_pow c pw hpw h3
    have f3 := u64_sub pw k h1 h3
    have f4 : IntKind.i64.wrap ((c : Int) - 1) = ((c - 1 : Nat) : Int) := by rw [IntWalk.i64_in _ (by omega)]; omega
    have F := Lib.hid (And.intro f1 (And.intro f2 (And.intro f3 f4)))
    obtain ⟨m, hmm⟩ : ∃ m, pw - k = m := ⟨_, rfl⟩
    rw [hmm] at F HO
    have hcz : (0 : Int) ≤ (c : Int) := Int.natCast_nonneg c
    -- the first bits
    obtain ⟨v1, a1, b1, ht1, T1, hv1, hb1⟩ : ∃ v1 a1 b1, tkP s a (c - 1) = (v1, a1) ∧ Hid (Calls Tryd.prog 93 #[.pointer (some ⟨qb, 0, none⟩), .int .i64 ((c - 1 : Nat) : Int)] W fun e w' =>
      e = .returned (.int .u64 (v1 : Int)) ∧ RQ x d t w rb qb s a1 b1 ks w') ∧ v1 < 4611686018427387904 ∧ b1 = (bad || decide (8 * s.size < a + (c - 1))) := by
      refine ⟨(tkP s a (c - 1)).1, (tkP s a (c - 1)).2, _, rfl, Lib.hid (qtake_any x d t hdt w rb qb s a (c - 1) (by omega) bad ks W H.out), ?_, rfl⟩
      unfold tkP
      split
      · refine Nat.lt_of_lt_of_le (num_lt _) ?_
        calc 2 ^ (((unpack (nats s)).drop a).take (c - 1)).length ≤ 2 ^ 62 := Nat.pow_le_pow_right (by decide) (by rw [List.length_take]; omega)
          _ = 4611686018427387904 := rfl
      · exact (by decide : (0 : Nat) < 4611686018427387904)
    have HT1 := Lib.hid ht1
    have HB1 := Lib.hid hb1
    have HLE := Lib.hid hle
    have HC0 := Lib.hid c0
    have HMW : m ≤ 9223372036854775808 := by omega
    clear ht1 hb1 hle c0 hm f1 f2 f3 f4 hpw h1 h2 h3
    by_cases hlt : v1 < m
    · have hd : ¬ (m : Int) ≤ (v1 : Int) := by omega
      go_enter Tryd.func94, Tryd.ntmps94
      go_wp2_with fail
      refine (LN.out _).mono ?_
      rintro e w1 ⟨rfl, rfl⟩
      obtain ⟨f1, f2, f3, f4⟩ := F.out
      go_upto_region 5 with fail
      clear f1 f2 f3 
      go_wp2_with fail
      refine T1.out.mono ?_
      rintro e w2 ⟨rfl, h2⟩
      have H2 := Lib.hid h2
      clear h2
      go_wp2_with fail
      go_ret
      refine ⟨v1, a1, b1, rfl, by omega, H2.out, fun h => by rw [HB1.out, h]; rfl, fun h => ?_⟩
      have OO := HO.out
      have ht1 := HT1.out
      have hb1 := HB1.out
      have hle := HLE.out
      rw [if_neg HC0.out] at OO
      rw [h, Bool.false_or] at hb1
      by_cases hl : a + (c - 1) ≤ 8 * s.size
      · rw [tkP_ok hl] at ht1
        obtain ⟨e1, e2⟩ := Prod.mk.inj ht1
        rw [if_neg (by omega), e1, if_pos hlt] at OO
        subst OO
        exact ⟨rfl, e2.symm, by rw [hb1]; exact decide_eq_false (by omega)⟩
      · rw [if_pos (by omega)] at OO
        subst OO
        show b1 = true
        rw [hb1]; exact decide_eq_true (by omega)
    · have hd : (m : Int) ≤ (v1 : Int) := by omega
      have w1 : IntKind.u64.wrap ((v1 : Int) * 2 ^ 1) = ((2 * v1 : Nat) : Int) := by rw [IntKind.wrap_u64]; omega
      have w1' : IntKind.u64.wrap ((v1 : Int) * 2) = ((2 * v1 : Nat) : Int) := by rw [IntKind.wrap_u64]; omega
      have T2 := Lib.hid (fun W h => qtake_any x d t hdt w rb qb s a1 1 (by decide) b1 ks W h)
      obtain ⟨v2, a2, ht2⟩ : ∃ v2 a2, tkP s a1 1 = (v2, a2) := ⟨_, _, rfl⟩
      have hv2 : v2 ≤ 1 := by
        have e : v2 = (tkP s a1 1).1 := by rw [ht2]
        rw [e]
        unfold tkP
        split
        · have := num_lt (((unpack (nats s)).drop a1).take 1)
          have h2 : 2 ^ (((unpack (nats s)).drop a1).take 1).length ≤ 2 ^ 1 := Nat.pow_le_pow_right (by decide) (by rw [List.length_take]; omega)
          show num _ ≤ 1
          omega
        · exact Nat.zero_le _
      rw [ht2] at T2
      dsimp only at T2
      have w2 : IntKind.u64.wrap (((2 * v1 : Nat) : Int) + (v2 : Int)) = ((2 * v1 + v2 : Nat) : Int) := by rw [IntKind.wrap_u64]; omega
      have w3 : IntKind.u64.wrap (((2 * v1 + v2 : Nat) : Int) - (m : Int)) = ((2 * v1 + v2 - m : Nat) : Int) := by rw [IntKind.wrap_u64]; omega
      have HT2 := Lib.hid ht2
      clear ht2
      go_enter Tryd.func94, Tryd.ntmps94
      go_wp2_with fail
      refine (LN.out _).mono ?_
      rintro e w1 ⟨rfl, rfl⟩
      obtain ⟨f1, f2, f3, f4⟩ := F.out
      go_upto_region 5 with fail
      clear f1 f2 f3 
      go_wp2_with fail
      refine T1.out.mono ?_
      rintro e w5 ⟨rfl, h2⟩
      have H2 := Lib.hid h2
      clear h2
      go_wp2_with fail
      refine (T2.out _ H2.out).mono ?_
      rintro e w6 ⟨rfl, h3⟩
      have H3 := Lib.hid h3
      clear h3 H2
      go_wp2_with fail
      go_ret
      refine ⟨2 * v1 + v2 - m, a2, _, by simp; omega, by omega, H3.out, fun h => by rw [HB1.out, h]; rfl, fun h => ?_⟩
      have OO := HO.out
      have ht1 := HT1.out
      have hb1 := HB1.out
      have hle := HLE.out
      have ht2 := HT2.out
      have hc0 := HC0.out
      rw [if_neg hc0] at OO
      rw [h, Bool.false_or] at hb1
      by_cases hl : a + (c - 1) ≤ 8 * s.size
      · rw [tkP_ok hl] at ht1
        obtain ⟨e1, e2⟩ := Prod.mk.inj ht1
        rw [if_neg (by omega), e1, if_neg hlt] at OO
        rw [decide_eq_false (by omega)] at hb1
        rw [hb1, Bool.false_or]
        subst e2
        by_cases hl2 : a + c ≤ 8 * s.size
        · rw [tkP_ok (by omega)] at ht2
          obtain ⟨e3, e4⟩ := Prod.mk.inj ht2
          have TS := take_succ_num ((unpack (nats s)).drop a) (c - 1) (by rw [List.length_drop, bits_len]; omega)
          rw [show c - 1 + 1 = c by omega, e1, List.drop_drop, e3] at TS
          rw [if_neg (by omega), TS] at OO
          subst OO
          exact ⟨rfl, by show a2 = a + c; omega, decide_eq_false (by omega)⟩
        · rw [if_pos (by omega)] at OO
          subst OO
          exact decide_eq_true (by omega)
      · rw [if_pos (by omega)] at OO
        subst OO
        rw [hb1, decide_eq_true (by omega)]
        rfl

set_option maxRecDepth 100000 in
set_option maxHeartbeats 3200000 in
theorem qgamma_any (x : Nat → Nat) (d t : Nat) (hdt : d ≠ t) (w : World) (rb qb : Nat) (s : ByteArray) (a : Nat) (ks : List (Nat × Obj)) (W : World) (h : RQ x d t w rb qb s a false ks W) :
    Calls Tryd.prog 92 #[.pointer (some ⟨qb, 0, none⟩), .int .i64 47] W (ReadP x d t w rb qb s a false ks (rd0 .gam ((unpack (nats s)).drop a))) := by
  have ZE := Lib.hid (zeros_any x d t hdt w rb qb s a 47 (by decide) ks W h)
  rw [show ((47 : Nat) : Int) = 47 from rfl] at ZE
  have hle := h.le
  have HLE := Lib.hid hle
  clear h hle
  have ZB := Lib.hid (fun n => zer_bound 48 ((unpack (nats s)).drop a) n)
  obtain ⟨o, ho⟩ : ∃ o, zer 48 ((unpack (nats s)).drop a) = o := ⟨_, rfl⟩
  rw [show 47 + 1 = 48 from rfl, ho] at ZE
  have RG := Lib.hid (rd0_gam ((unpack (nats s)).drop a))
  rw [ho] at RG ZB
  clear ho
  go_enter Tryd.func92, Tryd.ntmps92
  go_wp2_with fail
  refine ZE.out.mono ?_
  rintro e w1 ⟨b, a1, bad, rfl, hz, h1⟩
  have HZ := Lib.hid hz
  have hb : b ≤ 47 := by
    unfold zerP at hz
    cases o with
    | none => omega
    | some n => have := ZB.out n rfl; omega
  have TK := Lib.hid (fun W h => qtake_any x d t hdt w rb qb s a1 b (by omega) bad ks W h)
  obtain ⟨pw, hpw⟩ : ∃ pw, 2 ^ b = pw := ⟨_, rfl⟩
  have hpw1 : pw ≤ 281474976710656 := hpw ▸ pow48 (by omega)
  have hpw0 : 1 ≤ pw := by rw [← hpw]; exact Nat.pow_pos (by decide)
  have f1 : min b 64 = b := Nat.min_eq_left (by omega)
  have f2 := u64_pow b pw hpw (by omega)
  obtain ⟨v1, a2, ht⟩ : ∃ v1 a2, tkP s a1 b = (v1, a2) := ⟨_, _, rfl⟩
  have hv1 : v1 < pw := by
    have e : v1 = (tkP s a1 b).1 := by rw [ht]
    rw [e, ← hpw]
    unfold tkP
    split
    · exact Nat.lt_of_lt_of_le (num_lt _) (Nat.pow_le_pow_right (by decide) (by rw [List.length_take]; omega))
    · exact Nat.pow_pos (by decide)
  rw [ht] at TK
  dsimp only at TK
  have HT := Lib.hid ht
  have HPW := Lib.hid hpw
  have H1 := Lib.hid h1
  have f3 : IntKind.u64.wrap ((v1 : Int) + (pw : Int)) = ((v1 + pw : Nat) : Int) := by clear f2; rw [IntKind.wrap_u64]; omega
  have f4 : IntKind.u64.wrap ((v1 : Int) + (pw : Int) - 1) = ((v1 + pw - 1 : Nat) : Int) := by clear f2; rw [IntKind.wrap_u64]; omega
  have hvb : v1 + pw - 1 < 18446744073709551616 := by clear f2 f3 f4; omega
  have hb0 : (0 : Int) ≤ (b : Int) := Int.natCast_nonneg b
  clear hz ht hpw h1 hpw1 hpw0 hv1 hb ZB ZE
  go_upto_region 2 with fail
  go_region_held3 (fun _ => True) (first | trivial)
    (first | (go_at_call 93; refine (TK.out _ (by first | exact H1.out | exact H1.out.next (Below.drew (Below.refl _ _)))).mono ?_; rintro e w2 ⟨rfl, h2⟩; have H2 := Lib.hid h2; clear h2))
  all_goals
    clear f1 f2 f3
    go_wp2_with fail
    go_ret
    refine ⟨v1 + pw - 1, a2, _, rfl, hvb, H2.out, (fun h => by cases h), fun _ => ?_⟩
    have hz := HZ.out
    have ht := HT.out
    have hle := HLE.out
    rw [RG.out]
    cases o with
    | none =>
      show (bad || _) = true
      rw [hz.2]; rfl
    | some n =>
      obtain ⟨rfl, rfl, rfl⟩ := hz
      have hle1 := H1.out.le
      rw [Option.bind_some, List.length_drop, List.length_drop, bits_len]
      by_cases hl : a + b + 1 + b ≤ 8 * s.size
      · rw [tkP_ok hl] at ht
        obtain ⟨e1, e2⟩ := Prod.mk.inj ht
        rw [if_neg (by omega), List.drop_drop, ← Nat.add_assoc, e1, HPW.out]
        exact ⟨rfl, by show a2 = a + (b + 1 + b); omega, by rw [decide_eq_false (by omega)]; rfl⟩
      · rw [if_pos (by omega), decide_eq_true (by omega)]
        rfl

theorem u64_step (v fr : Nat) (h : 1 ≤ fr ∧ fr ≤ 281474976710656) : ∃ u : Nat, IntKind.u64.wrap (IntKind.u64.wrap ((v : Int) + (fr : Int)) - 1) = (u : Int) ∧ u < 18446744073709551616 ∧ (v + fr < 18446744073709551616 → u = v + fr - 1) := by
  refine ⟨(IntKind.u64.wrap (IntKind.u64.wrap ((v : Int) + (fr : Int)) - 1)).toNat, ?_, ?_, ?_⟩ <;> simp only [IntKind.wrap_u64] <;> omega
set_option maxRecDepth 100000 in
set_option maxHeartbeats 3200000 in
theorem qnumber_any (x : Nat → Nat) (d t : Nat) (hdt : d ≠ t) (c : Cd) (hc : c.ok) (w : World) (rb qb : Nat) (s : ByteArray) (a : Nat) (ks : List (Nat × Obj)) (W : World) (h : RQ x d t w rb qb s a false ks W) :
    Calls Tryd.prog 71 #[.pointer (some ⟨qb, 0, none⟩), cdV c] W (ReadP x d t w rb qb s a false ks (rd0 c ((unpack (nats s)).drop a))) := by
  cases c with
  | una =>
    have H1 := Lib.hid (h.next ((Below.refl W.heap.size W).alloc (Nat.le_refl _) (.cells #[.int .u8 0, .int .u64 0] 85)))
    have ZE := Lib.hid (zeros_any x d t hdt w rb qb s a 65535 (by decide) ks _ H1.out)
    rw [rd0_una]
    have ZB := Lib.hid (fun n => zer_bound 65536 ((unpack (nats s)).drop a) n)
    obtain ⟨o, ho⟩ : ∃ o, zer 65536 ((unpack (nats s)).drop a) = o := ⟨_, rfl⟩
    rw [show ((65535 : Nat) : Int) = 65535 from rfl, show 65535 + 1 = 65536 from rfl, ho] at ZE
    rw [ho] at ZB ⊢
    clear ho h
    unfold cdV
    go_enter Tryd.func71, Tryd.ntmps71
    go_wp2_with fail
    refine ZE.out.mono ?_
    rintro e w1 ⟨v, a1, bad, rfl, hz, h1⟩
    have H2 := Lib.hid h1
    have hv : v ≤ 65535 := by
      unfold zerP at hz
      cases o with
      | none => omega
      | some n => have := ZB.out n rfl; omega
    have HZ := Lib.hid hz
    have w0 : IntKind.u64.wrap (v : Int) = (v : Int) := by rw [IntKind.wrap_u64]; omega
    clear hz h1 ZE
    go_wp2_with fail
    go_ret
    refine ⟨v, a1, bad, rfl, by omega, H2.out, (fun h => by cases h), fun _ => ?_⟩
    have hz := HZ.out
    cases o with
    | none => exact hz.2
    | some n => exact ⟨hz.1, by have := hz.2.1; show a1 = a + (n + 1); omega, hz.2.2⟩
  | gam =>
    have H1 := Lib.hid (h.next ((Below.refl W.heap.size W).alloc (Nat.le_refl _) (.cells #[.int .u8 1, .int .u64 0] 85)))
    have ZE := Lib.hid (qgamma_any x d t hdt w rb qb s a ks _ H1.out)
    obtain ⟨o, ho⟩ : ∃ o, rd0 .gam ((unpack (nats s)).drop a) = o := ⟨_, rfl⟩
    rw [ho] at ZE ⊢
    clear ho h
    unfold cdV
    go_enter Tryd.func71, Tryd.ntmps71
    go_wp2_with fail
    refine ZE.out.mono ?_
    rintro e w1 ⟨v, a1, bad, rfl, hz⟩
    have HZ := Lib.hid hz
    clear hz ZE
    go_wp2_with fail
    go_ret
    obtain ⟨z1, z2, z3, z4⟩ := HZ.out
    exact ⟨v, a1, bad, rfl, z1, z2, z3, fun _ => z4 trivial⟩
  | zet k =>
    obtain ⟨hk1, hk2⟩ : 1 ≤ k ∧ k ≤ 16 := hc
    have K0 := Lib.hid (h.keep #[.int .u8 3, .int .u64 (k : Int)] 85)
    have r0 := K0.out.row (List.mem_cons_self ..)
    have g0 : (W.alloc (.cells #[.int .u8 3, .int .u64 (k : Int)] 85)).cell? ⟨W.heap.size, 0, none⟩ = some (.int .u8 3) := by rw [cell_of_row _ _ _ _ _ _ r0]; rfl
    have g1 : (W.alloc (.cells #[.int .u8 3, .int .u64 (k : Int)] 85)).cell? ⟨W.heap.size, 1, none⟩ = some (.int .u64 (k : Int)) := by rw [cell_of_row _ _ _ _ _ _ r0]; rfl
    have ZE := Lib.hid (zeros_any x d t hdt w rb qb s a (47 / k) (Nat.le_trans (Nat.div_le_self _ _) (by decide)) _ _ K0.out)
    have RZ := Lib.hid (rd0_zet k ((unpack (nats s)).drop a))
    have ZB := Lib.hid (fun n => zer_bound (47 / k + 1) ((unpack (nats s)).drop a) n)
    obtain ⟨o, ho⟩ : ∃ o, zer (47 / k + 1) ((unpack (nats s)).drop a) = o := ⟨_, rfl⟩
    rw [ho] at ZE RZ ZB
    obtain ⟨mz, hmz⟩ : ∃ m, 47 / k = m := ⟨_, rfl⟩
    have hq := quo_nat 47 k mz hmz
    rw [show ((47 : Nat) : Int) = 47 from rfl] at hq
    have hmk : mz * k ≤ 47 := by rw [← hmz]; exact Nat.div_mul_le_self 47 k
    rw [hmz] at ZE ZB
    have f0 := w64_nat k (by omega)
    have f0' := i64_nat k (by omega)
    have hkne := int_nz k hk1
    have f0q := w64_nat mz (Nat.le_trans (hmz ▸ Nat.div_le_self 47 k) (by decide))
    have Q := Lib.hid (And.intro f0 (And.intro f0' (And.intro hq (And.intro hkne f0q))))
    obtain ⟨sz, hsz⟩ : ∃ z, W.heap.size = z := ⟨_, rfl⟩
    rw [hsz] at ZE g0 g1
    have HKK := Lib.hid hk2
    clear ho h f0 f0' f0q hq hkne hmz K0 r0
    unfold cdV
    go_enter Tryd.func71, Tryd.ntmps71
    go_upto_region 13 with fail
    obtain ⟨f0, f0', hq, hkne, f0q⟩ := Q.out
    go_wp2_with fail
    clear f0 f0' f0q hq hkne g0 g1
    with_reducible refine ZE.out.mono ?_
    rintro e w1 ⟨h, a1, bad, rfl, hz, h1⟩
    have hh : h ≤ mz := by
      unfold zerP at hz
      cases o with
      | none => omega
      | some n => have := ZB.out n rfl; omega
    have hhk : h * k ≤ 47 := Nat.le_trans (Nat.mul_le_mul_right k hh) hmk
    obtain ⟨m, hm⟩ : ∃ m, h * k = m := ⟨_, rfl⟩
    have hm1 : (h + 1) * k = m + k := by rw [Nat.add_mul, hm, Nat.one_mul]
    rw [hm] at hhk
    obtain ⟨fr, hfr⟩ : ∃ fr, 2 ^ m = fr := ⟨_, rfl⟩
    obtain ⟨tt, htt⟩ : ∃ tt, 2 ^ (m + k) = tt := ⟨_, rfl⟩
    have hfk : fr * 2 ^ k = tt := by rw [← hfr, ← htt, Nat.pow_add]
    have hmk : m + k ≤ 63 := Nat.add_le_add hhk hk2
    have htt2 : tt ≤ 9223372036854775808 := htt ▸ pow63 hmk
    have hfr0 : 1 ≤ fr := by rw [← hfr]; exact Nat.pow_pos (by decide)
    have hfr1 : 2 * fr ≤ tt := by
      rw [← hfk, Nat.mul_comm]
      refine Nat.mul_le_mul_left fr ?_
      calc 2 = 2 ^ 1 := rfl
        _ ≤ 2 ^ k := Nat.pow_le_pow_right (by decide) hk1
    have hfr2 : fr ≤ tt := Nat.le_trans (by rw [Nat.two_mul]; exact Nat.le_add_right _ _) hfr1
    have hfr3 : fr ≤ 281474976710656 := hfr ▸ pow48 (Nat.le_trans hhk (by decide))
    have SH := Lib.hid (fun W ks bad h => qshort_any x d t hdt w rb qb s a1 (tt - fr) (by clear hfk; omega) (Nat.le_trans (Nat.sub_le _ _) htt2) bad ks W h)
    have f3 := i64_mul h k m hm (Nat.le_trans hhk (by decide))
    have f4 : min m 64 = m := Nat.min_eq_left (Nat.le_trans hhk (by decide))
    have f5 := u64_pow m fr hfr (Nat.le_trans hfr2 htt2)
    have f7 : min k 64 = k := Nat.min_eq_left (Nat.le_trans hk2 (by decide))
    have f8 := u64_mul fr k tt hfk htt2
    have f9 := u64_sub tt fr hfr2 htt2
    have f11 : (0 : Int) ≤ (m : Int) := Int.natCast_nonneg m
    have f12 : (0 : Int) ≤ (k : Int) := Int.natCast_nonneg k
    have F := Lib.hid (And.intro f7 (And.intro f8 (And.intro f9 f12)))
    have HZ := Lib.hid hz
    have H1 := Lib.hid h1
    have HFR := Lib.hid hfr
    have HTT := Lib.hid htt
    have HM1 := Lib.hid hm1
    have HM := Lib.hid hm
    have B := Lib.hid (And.intro hfr0 (And.intro hfr1 (And.intro hfr3 htt2)))
    clear f7 f8 f9 f12 hfr0 hfr1 hfr2 hfr3 htt2 hmk hfk htt hfr hm1 hm hhk hz h1 hh ZE ZB
    go_upto_region 15 with fail
    clear f3 f4 f5 f11
    obtain ⟨f7, f8, f9, f12⟩ := F.out
    go_wp2_with fail
    with_reducible refine (SH.out _ _ _ H1.out).mono ?_
    rintro e w2 ⟨v, a2, bad2, rfl, hv, h2, hb2, hg⟩
    have H2 := Lib.hid (show RQ x d t w rb qb s a2 bad2 ks w2 from h2.less)
    have HG := Lib.hid (And.intro hb2 hg)
    clear f7 f8 f9 f12 h2 hb2 hg SH
    obtain ⟨u, hu, hul, hug⟩ := u64_step v fr (by have := B.out; omega)
    have HUG := Lib.hid hug
    clear hug
    go_wp2_with fail
    go_ret
    refine ⟨u, a2, bad2, rfl, hul, H2.out, (fun h => by cases h), fun _ => ?_⟩
    have hz := HZ.out
    obtain ⟨hb2, hg⟩ := HG.out
    obtain ⟨b0, b1, b2, b3⟩ := B.out
    rw [RZ.out]
    cases o with
    | none => exact hb2 hz.2
    | some n =>
      obtain ⟨rfl, rfl, rfl⟩ := hz
      have hg := hg rfl
      rw [Option.bind_some, List.drop_drop, ← Nat.add_assoc, HM1.out, HM.out, HTT.out, HFR.out]
      cases hmr : mread (tt - fr) ((unpack (nats s)).drop (a + h + 1)) with
      | none => rw [hmr] at hg; exact hg
      | some q =>
        rw [hmr] at hg
        obtain ⟨e1, e2, e3⟩ := hg
        have hml := (mread_bound (k := tt - fr) (by omega) (v := q.1) (n := q.2) hmr).1
        refine ⟨?_, ?_, e3⟩
        · show u = q.1 + fr - 1
          have := HUG.out (by omega)
          omega
        · show a2 = a + (h + 1 + q.2)
          omega
end Go.Proofs.YtflnpcgnenhogaaDoor.ls
namespace Go.Proofs.YtflnpcgnenhogaaDoor.ls
open Go.RowKit Go.Proofs.YtflnpcgnenhogaaDoor.own Go.Proofs.YtflnpcgnenhogaaDoor.bit

theorem At_any (x : Nat → Nat) (d : Nat) (w : World) (rb : Nat) (s : ByteArray) (a : Nat) (h : RdC x d w rb s a) :
    Calls Tryd.prog 24 #[.pointer (some ⟨rb, 0, none⟩)] w fun e w' => e = .returned (.int .i64 (a : Int)) ∧ w = w' := by
  obtain ⟨h0, -, -, -⟩ := h
  have c1 : w.cell? ⟨rb, 1, none⟩ = some (.int .i64 (a : Int)) := by rw [cell_of_row w rb _ _ _ _ h0]; rfl
  clear h0
  go_enter Tryd.func24, Tryd.ntmps24
  go_wp2_with fail
  go_ret
  exact ⟨rfl, rfl⟩

theorem back_no (pe pr pa : Addr) (u : FrameMode) (w : World) (h : w.cell? pe = some (.int .i64 0)) :
    CallsD Tryd.prog 70 #[.pointer (some pe), .pointer (some pr), .pointer (some pa)] u w fun e u' w' => u' = u ∧ (e = .returned (.tuple #[]) ∧ w = w') := by
  go_enter_d Tryd.func70, Tryd.ntmps70
  go_wp2_with fail
  go_end0
  exact ⟨rfl, rfl⟩
theorem back_yes (x : Nat → Nat) (d : Nat) (s : ByteArray) (rb a a0 : Nat) (pe pr pa : Addr) (u : FrameMode) (w : World) (h : w.cell? pe = some (.int .i64 4)) (hr : w.cell? pr = some (.pointer (some ⟨rb, 0, none⟩))) (ha : w.cell? pa = some (.int .i64 (a0 : Int)))
    (hR : RdC x d w rb s a) (ha0 : a0 ≤ 8 * s.size) :
    CallsD Tryd.prog 70 #[.pointer (some pe), .pointer (some pr), .pointer (some pa)] u w fun e u' w' => u' = u ∧ (e = .returned (.tuple #[]) ∧ Fr x x (fun e => e = d) w w' ∧ RdC x d w' rb s a0) := by
  have SK := Lib.hid (Seek_any x d s a a0 rb w hR ha0)
  clear hR
  go_enter_d Tryd.func70, Tryd.ntmps70
  go_wp2_with fail
  with_reducible refine SK.out.mono ?_
  rintro e w1 ⟨rfl, h1, h2⟩
  have H := Lib.hid (And.intro h1 h2)
  clear h1 h2
  go_wp2_with fail
  go_end0
  exact ⟨rfl, H.out⟩

theorem RQ.make {x : Nat → Nat} {d t : Nat} {w W : World} {rb qb a : Nat} {s : ByteArray} {ks : List (Nat × Obj)} (hr : RdC x d w rb s a) (k : Below w.heap.size w W) (hq : w.heap.size ≤ qb) (hq2 : W.heap[qb]? = some (.cells #[.pointer (some ⟨rb, 0, none⟩), .bool false] 148 (0, 0)))
    (hk : ∀ p ∈ ks, w.heap.size ≤ p.1 ∧ p.1 ≠ qb ∧ W.heap[p.1]? = some p.2) : RQ x d t w rb qb s a false ks W := by
  obtain ⟨hr1, hr2, hr3⟩ := hr
  exact ⟨paint x w.heap.size t, (Fr.of_below (x := x) (C := fun e => e = d ∨ e = t) k (c := t) (.inr rfl)), ⟨(k.block _ (lt_of_block hr1)).trans hr1, (paint_old (lt_of_block hr1)).trans hr2, hr3⟩, ⟨paint_new hq, hq2⟩, fun p hp => ⟨paint_new (hk p hp).1, (hk p hp).2⟩⟩
theorem RQ.write {x : Nat → Nat} {d t : Nat} {w W : World} {rb qb a : Nat} {s : ByteArray} {bad : Bool} {hb : Nat} {row : Array Value} {T : TypeId} {ks : List (Nat × Obj)} (h : RQ x d t w rb qb s a bad ((hb, .cells row T (0, 0)) :: ks) W) (hdt : d ≠ t) (hne : ∀ p ∈ ks, p.1 ≠ hb) (j : Nat) (v : Value) :
    RQ x d t w rb qb s a bad ((hb, .cells (row.setIfInBounds j v) T (0, 0)) :: ks) (W.setCell ⟨hb, j, none⟩ v) := by
  obtain ⟨x', hf, ⟨hr1, hr2, hr3⟩, ⟨hq1, hq2⟩, hk⟩ := h
  obtain ⟨h1, h2, h3⟩ := hk _ (List.mem_cons_self ..)
  have ne : ∀ b, b ≠ hb → (W.setCell ⟨hb, j, none⟩ v).heap[b]? = W.heap[b]? := fun b hb' => Below.heap_setCell W ⟨hb, j, none⟩ v b hb'
  have f2 : Fr x' x' (fun c => c = t) W (W.setCell ⟨hb, j, none⟩ v) := Fr.same rfl rfl rfl (by simp) (fun b _ hd => ne b (fun e => hd (by rw [e]; exact h1)))
  refine ⟨x', hf.trans (f2.mono (fun c hc => .inr hc)), ⟨(ne _ (fun e => by rw [e] at hr2; exact hdt (hr2.symm.trans h1))).trans hr1, hr2, hr3⟩, ⟨hq1, (ne _ (fun e => h2 e.symm)).trans hq2⟩, fun p hp => ?_⟩
  rcases List.mem_cons.1 hp with rfl | hp
  · exact ⟨h1, h2, heap_setCell_same W hb j _ _ v h3⟩
  · obtain ⟨h4, h5, h6⟩ := hk p (List.mem_cons_of_mem _ hp)
    exact ⟨h4, h5, (ne _ (hne p hp)).trans h6⟩

theorem RdC.below {x : Nat → Nat} {d : Nat} {w W : World} {rb a : Nat} {s : ByteArray} (h : RdC x d w rb s a) (k : Below w.heap.size w W) : RdC x d W rb s a := ⟨(k.block _ (lt_of_block h.1)).trans h.1, h.2⟩
theorem rows2 {w W : World} {a b : Array Value} {A B : TypeId} (h : (w.alloc (.cells a A)).alloc (.cells b B) = W) :
    W.heap[w.heap.size]? = some (.cells a A (0, 0)) ∧ W.heap[w.heap.size + 1]? = some (.cells b B (0, 0)) ∧ Below w.heap.size w W := by
  subst h
  have r1 := heap_alloc_new w (.cells a A)
  have r2 := heap_alloc_new (w.alloc (.cells a A)) (.cells b B)
  have z1 : (w.alloc (.cells a A)).heap.size = w.heap.size + 1 := by simp
  rw [z1] at r2
  exact ⟨(Below.heap_alloc _ _ _ (by omega)).trans r1, r2, (by repeat (first | exact Below.refl _ _ | refine below_drewN ?_ _ | refine Below.setCell ?_ (by simp; try omega) _ | refine Below.alloc ?_ (by simp; try omega) _))⟩
/-- behind the door: the reader is back -/
theorem RQ.gone {x : Nat → Nat} {d t : Nat} {w W : World} {rb qb a : Nat} {s : ByteArray} {bad : Bool} {ks : List (Nat × Obj)} (h : RQ x d t w rb qb s a bad ks W) (hdt : d ≠ t) :
    ∃ x', RdC x' d W rb s a ∧ ∀ W' a', Fr x' x' (fun e => e = d) W W' → RdC x' d W' rb s a' → RQ x d t w rb qb s a' bad ks W' := by
  obtain ⟨x', hf, hr, ⟨hq1, hq2⟩, hk⟩ := h
  refine ⟨x', hr, fun W' a' f2 hr2 => ⟨x', hf.trans (f2.mono (fun c hc => .inl hc)), hr2, ⟨hq1, (f2.old _ (lt_of_block hq2) (fun e => hdt (e.symm.trans hq1))).trans hq2⟩, fun p hp => ?_⟩⟩
  obtain ⟨h1, h2, h3⟩ := hk p hp
  exact ⟨h1, h2, (f2.old _ (lt_of_block h3) (fun e => hdt (e.symm.trans h1))).trans h3⟩
theorem RQ.end_ {x : Nat → Nat} {d t : Nat} {w W : World} {rb qb a : Nat} {s : ByteArray} {bad : Bool} {ks : List (Nat × Obj)} (h : RQ x d t w rb qb s a bad ks W) : ∃ x', Fr x x' (fun e => e = d ∨ e = t) w W ∧ RdC x' d W rb s a := by
  obtain ⟨x', hf, hr, _⟩ := h
  exact ⟨x', hf, hr⟩
/-- what Read answers, and where the reader is then -/
def rdV : Option (Nat × Nat) → Value
  | some q => .tuple #[.int .u64 (q.1 : Int), .int .i64 0]
  | none => .tuple #[.int .u64 0, .int .i64 4]
def rdA (a : Nat) : Option (Nat × Nat) → Nat
  | some q => a + q.2
  | none => a
set_option maxRecDepth 100000 in
set_option maxHeartbeats 3200000 in
theorem cread_any (x : Nat → Nat) (d t : Nat) (hdt : d ≠ t) (c : Cd) (hc : c.ok) (w : World) (rb : Nat) (s : ByteArray) (a : Nat) (h : RdC x d w rb s a) :
    Calls Tryd.prog 39 #[.pointer (some ⟨rb, 0, none⟩), cdV c] w fun e w' =>
      e = .returned (rdV (rd c ((unpack (nats s)).drop a))) ∧ ∃ x', Fr x x' (fun e => e = d ∨ e = t) w w' ∧ RdC x' d w' rb s (rdA a (rd c ((unpack (nats s)).drop a))) := by
  have hmf : ∀ (fn : Fn) (first cap : Array Value) (w : World), (Instr.makeFunc fn first cap).run Tryd.prog w = .ok (.func fn first cap) w := fun _ _ _ _ => rfl
  have CK := Lib.hid (fun W => check_any c hc W)
  have MO := Lib.hid (fun W => most_any c hc W)
  have AT := Lib.hid (fun x W h => At_any x d W rb s a h)
  have NU := Lib.hid (fun qb ks W h => qnumber_any x d t hdt c hc w rb qb s a ks W h)
  have RR := Lib.hid (rd_rd0 c hc ((unpack (nats s)).drop a))
  generalize rd0 c ((unpack (nats s)).drop a) = o at NU RR
  rw [RR.out]
  obtain ⟨kd, kk, hcd⟩ := cdV_shape c
  rw [hcd] at CK MO NU ⊢
  generalize c.most = most at MO RR ⊢
  have H := Lib.hid h
  have HDT := Lib.hid hdt
  clear hcd h hdt RR
  go_enter_defers Tryd.func39, Tryd.ntmps39
  go_upto_region 1 with fail
  generalize hW : World.alloc (World.alloc (World.alloc w _) _) _ = W0
  obtain ⟨r1, r2, r3, kb⟩ := rows3 hW
  have RW := Lib.hid (And.intro r1 (And.intro r2 r3))
  have c0 : W0.cell? ⟨w.heap.size, 0, none⟩ = some (.pointer (some ⟨rb, 0, none⟩)) := by rw [cell_of_row _ _ _ _ _ _ r1]; rfl
  have c1 : W0.cell? ⟨w.heap.size + 1, 0, none⟩ = some (.int .u8 kd) := by rw [cell_of_row _ _ _ _ _ _ r2]; rfl
  have c2 : W0.cell? ⟨w.heap.size + 1, 1, none⟩ = some (.int .u64 kk) := by rw [cell_of_row _ _ _ _ _ _ r2]; rfl
  have KB := Lib.hid kb
  clear hW kb r1 r2 r3
  go_wp2_with fail
  with_reducible refine (CK.out _).mono ?_
  rintro e w1 ⟨rfl, k1⟩
  have lz := lt_of_block RW.out.2.2
  have r1 := (k1.block _ (by omega)).trans RW.out.1
  have r2 := (k1.block _ (by omega)).trans RW.out.2.1
  have r3 := (k1.block _ lz).trans RW.out.2.2
  have K1 := Lib.hid (KB.out.trans (k1.mono KB.out.size))
  have RW1 := Lib.hid (And.intro r1 (And.intro r2 r3))
  have LZ := Lib.hid (show w.heap.size + 1 + 1 < w1.heap.size by have := k1.size; omega)
  clear c0 c1 c2 k1 RW KB lz
  have c0 : w1.cell? ⟨w.heap.size, 0, none⟩ = some (.pointer (some ⟨rb, 0, none⟩)) := by rw [cell_of_row _ _ _ _ _ _ r1]; rfl
  have c1 : w1.cell? ⟨w.heap.size + 1, 0, none⟩ = some (.int .u8 kd) := by rw [cell_of_row _ _ _ _ _ _ r2]; rfl
  have c2 : w1.cell? ⟨w.heap.size + 1, 1, none⟩ = some (.int .u64 kk) := by rw [cell_of_row _ _ _ _ _ _ r2]; rfl
  clear r1 r2 r3
  have R1 := Lib.hid (RdC.below H.out K1.out)
  go_wp2_with fail
  with_reducible refine (AT.out _ _ R1.out).mono ?_
  rintro e w2 ⟨rfl, rfl⟩
  have lz0 := LZ.out
  have d0 : (w1.alloc (.cells #[.int .i64 (a : Int)] 3)).cell? ⟨w.heap.size, 0, none⟩ = some (.pointer (some ⟨rb, 0, none⟩)) := by rw [World.cell?_of_block (w := w1) (Below.heap_alloc _ _ _ (by show w.heap.size < _; omega))]; exact c0
  clear c0 c1 c2
  go_upto_region 8 with fail
  clear d0
  generalize hW : World.alloc (World.alloc w1 _) _ = W2
  obtain ⟨q1, q2, kb⟩ := rows2 hW
  have K2 := Lib.hid (K1.out.trans (kb.mono K1.out.size))
  have lz := LZ.out
  obtain ⟨r1, r2, r3⟩ := RW1.out
  have r1 := (kb.block _ (by omega)).trans r1
  have r2 := (kb.block _ (by omega)).trans r2
  have r3 := (kb.block _ lz).trans r3
  obtain ⟨sz, hsz⟩ : ∃ z, w.heap.size = z := ⟨_, rfl⟩
  obtain ⟨ab, hab⟩ : ∃ z, w1.heap.size = z := ⟨_, rfl⟩
  rw [hsz, hab] at lz
  rw [hab] at q1 q2
  rw [hsz] at r1 r2 r3
  rw [hsz, hab]
  have Q0 := Lib.hid (RQ.make (t := t) (qb := ab + 1) (ks := [(sz + 1 + 1, .cells #[.int .i64 0] 35 (0, 0)), (sz, .cells #[.pointer (some ⟨rb, 0, none⟩)] 52 (0, 0)), (ab, .cells #[.int .i64 (a : Int)] 3 (0, 0)), (sz + 1, .cells #[.int .u8 kd, .int .u64 kk] 85 (0, 0))]) H.out K2.out (by rw [hsz]; omega) q2 (fun p hp => by
    simp only [List.mem_cons, List.not_mem_nil, or_false] at hp
    rw [hsz]
    rcases hp with rfl | rfl | rfl | rfl
    · exact ⟨by show sz ≤ sz + 1 + 1; omega, by show sz + 1 + 1 ≠ ab + 1; omega, r3⟩
    · exact ⟨Nat.le_refl _, by show sz ≠ ab + 1; omega, r1⟩
    · exact ⟨by show sz ≤ ab; omega, by show ab ≠ ab + 1; omega, q1⟩
    · exact ⟨by show sz ≤ sz + 1; omega, by show sz + 1 ≠ ab + 1; omega, r2⟩))
  have HNE := Lib.hid (show sz ≠ sz + 1 + 1 ∧ ab ≠ sz + 1 + 1 ∧ sz + 1 ≠ sz + 1 + 1 by omega)
  have c0 : W2.cell? ⟨sz, 0, none⟩ = some (.pointer (some ⟨rb, 0, none⟩)) := by rw [cell_of_row _ _ _ _ _ _ r1]; rfl
  have c1 : W2.cell? ⟨sz + 1, 0, none⟩ = some (.int .u8 kd) := by rw [cell_of_row _ _ _ _ _ _ r2]; rfl
  have c2 : W2.cell? ⟨sz + 1, 1, none⟩ = some (.int .u64 kk) := by rw [cell_of_row _ _ _ _ _ _ r2]; rfl
  clear hW kb r1 r2 r3 q1 q2 lz LZ R1 K1 RW1
  go_wp2_with fail
  with_reducible refine (NU.out _ _ _ Q0.out).mono ?_
  rintro e w3 ⟨v, a1, bad, rfl, hv, h3, -, hg⟩
  have H3 := Lib.hid h3
  have HG := Lib.hid hg
  clear hg c0 c1 c2 NU lz0 r1 r2 r3
  obtain ⟨ks, hks⟩ : ∃ ks, ks = [(sz, Obj.cells #[.pointer (some ⟨rb, 0, none⟩)] 52 (0, 0)), (ab, .cells #[.int .i64 (a : Int)] 3 (0, 0)), (sz + 1, .cells #[.int .u8 kd, .int .u64 kk] 85 (0, 0))] := ⟨_, rfl⟩
  have HM1 : Hid ((sz, Obj.cells #[.pointer (some ⟨rb, 0, none⟩)] 52 (0, 0)) ∈ ks) := Lib.hid (by rw [hks]; simp)
  have HM2 : Hid ((ab, Obj.cells #[.int .i64 (a : Int)] 3 (0, 0)) ∈ ks) := Lib.hid (by rw [hks]; simp)
  have HM3 : Hid ((sz + 1, Obj.cells #[.int .u8 kd, .int .u64 kk] 85 (0, 0)) ∈ ks) := Lib.hid (by rw [hks]; simp)
  have HN : Hid (∀ p ∈ ks, p.1 ≠ sz + 1 + 1) := Lib.hid (by
    obtain ⟨n1, n2, n3⟩ := HNE.out
    rw [hks]
    intro p hp
    simp only [List.mem_cons, List.not_mem_nil, or_false] at hp
    rcases hp with rfl | rfl | rfl
    · exact n1
    · exact n2
    · exact n3)
  rw [← hks] at H3 h3
  clear hks Q0 HNE
  -- a fault: the mark, and back
  have FAULT : ∀ W, RQ x d t w rb (ab + 1) s a1 bad ((sz + 1 + 1, .cells #[.int .i64 0] 35 (0, 0)) :: ks) W → RQ x d t w rb (ab + 1) s a1 bad ((sz + 1 + 1, .cells #[.int .i64 4] 35 (0, 0)) :: ks) (W.setCell ⟨sz + 1 + 1, 0, none⟩ (.int .i64 4)) := fun W h => h.write HDT.out HN.out 0 _
  have GOOD : ∀ W, RQ x d t w rb (ab + 1) s a1 bad ((sz + 1 + 1, .cells #[.int .i64 0] 35 (0, 0)) :: ks) W → RQ x d t w rb (ab + 1) s a1 bad ((sz + 1 + 1, .cells #[.int .i64 0] 35 (0, 0)) :: ks) (W.setCell ⟨sz + 1 + 1, 0, none⟩ (.int .i64 0)) := fun W h => h.write HDT.out HN.out 0 _
  have FAULT := Lib.hid FAULT
  have GOOD := Lib.hid GOOD
  have HA := Lib.hid H.out.2.2.1
  have c1 : w3.cell? ⟨sz + 1, 0, none⟩ = some (.int .u8 kd) := by rw [cell_of_row _ _ _ _ _ _ (h3.row (List.mem_cons_of_mem _ HM3.out))]; rfl
  have c2 : w3.cell? ⟨sz + 1, 1, none⟩ = some (.int .u64 kk) := by rw [cell_of_row _ _ _ _ _ _ (h3.row (List.mem_cons_of_mem _ HM3.out))]; rfl
  have cb : w3.cell? ⟨ab + 1, 1, none⟩ = some (.bool bad) := by rw [cell_of_row _ _ _ _ _ _ h3.q]; rfl
  cases bad
  · go_wp2_with fail
    with_reducible refine (MO.out _).mono ?_
    rintro e w4 ⟨rfl, k4⟩
    have h4 := H3.out.next k4
    have H4 := Lib.hid h4
    have ce : w4.cell? ⟨sz + 1 + 1, 0, none⟩ = some (.int .i64 0) := by rw [cell_of_row _ _ _ _ _ _ (h4.row (List.mem_cons_self ..))]; rfl
    have cf : ∀ j, w4.frozen? ⟨sz + 1 + 1, j, none⟩ = false := fun j => frozen_of_row w4 _ j _ _ (h4.row (List.mem_cons_self ..))
    clear c1 c2 cb k4 h4 h3 H3
    by_cases hvm : v ≤ most
    · have hd : ¬ (most : Int) < (v : Int) := by omega
      have h5 := GOOD.out _ H4.out
      have H5 := Lib.hid h5
      clear h5
      go_wp2_with fail
      have h5 := H5.out
      have g1 := h5.row (List.mem_cons_self ..)
      refine leaves_cons (f := 70) (args := #[.pointer (some ⟨sz + 1 + 1, 0, none⟩), .pointer (some ⟨sz, 0, none⟩), .pointer (some ⟨ab, 0, none⟩)]) (by simp) (by simp [go_sem]) ?_
      refine (back_no ⟨sz + 1 + 1, 0, none⟩ ⟨sz, 0, none⟩ ⟨ab, 0, none⟩ _ _ (by rw [cell_of_row _ _ _ _ _ _ g1]; rfl)).mono ?_
      rintro e u' w9 ⟨rfl, rfl, rfl⟩
      have c9 := (show World.cell? _ ⟨sz + 1 + 1, 0, none⟩ = some (.int .i64 0) by rw [cell_of_row _ _ _ _ _ _ g1]; rfl)
      have ho : ∃ n, (o.bind fun q => if q.1 ≤ most then some q else none) = some (v, n) ∧ a1 = a + n := by
        have hg := HG.out
        cases o with
        | none => simp at hg
        | some q =>
          obtain ⟨e1, e2, -⟩ := hg trivial
          exact ⟨q.2, by rw [Option.bind_some, if_pos (by omega), e1], e2⟩
      obtain ⟨n, ho, rfl⟩ := ho
      rw [ho]
      obtain ⟨x', e1, e2⟩ := h5.end_
      have HE := Lib.hid (And.intro e1 e2)
      clear e1 e2 h5 H5
      simp [Leaves, settle, results, Tryd.results39, go_sem, c9]
      exact ⟨rfl, x', HE.out⟩
    · have hd : (most : Int) < (v : Int) := by omega
      have h5 := FAULT.out _ H4.out
      have H5 := Lib.hid h5
      clear h5
      go_wp2_with fail
      have h5 := H5.out
      obtain ⟨x5, hr5, back⟩ := h5.gone HDT.out
      have g1 := h5.row (List.mem_cons_self ..)
      have g2 := h5.row (List.mem_cons_of_mem _ HM1.out)
      have g3 := h5.row (List.mem_cons_of_mem _ HM2.out)
      refine leaves_cons (f := 70) (args := #[.pointer (some ⟨sz + 1 + 1, 0, none⟩), .pointer (some ⟨sz, 0, none⟩), .pointer (some ⟨ab, 0, none⟩)]) (by simp) (by simp [go_sem]) ?_
      refine (back_yes x5 d s rb a1 a ⟨sz + 1 + 1, 0, none⟩ ⟨sz, 0, none⟩ ⟨ab, 0, none⟩ _ _ (by rw [cell_of_row _ _ _ _ _ _ g1]; rfl) (by rw [cell_of_row _ _ _ _ _ _ g2]; rfl) (by rw [cell_of_row _ _ _ _ _ _ g3]; rfl) hr5 HA.out).mono ?_
      rintro e u' w9 ⟨rfl, rfl, f9, h9⟩
      have h10 := back _ _ f9 h9
      have c9 : w9.cell? ⟨sz + 1 + 1, 0, none⟩ = some (.int .i64 4) := by rw [cell_of_row _ _ _ _ _ _ (h10.row (List.mem_cons_self ..))]; rfl
      have ho : (o.bind fun q => if q.1 ≤ most then some q else none) = none := by
        have hg := HG.out
        cases o with
        | none => rfl
        | some q => (obtain ⟨e1, _⟩ := hg trivial; rw [Option.bind_some, if_neg (by omega)])
      rw [ho]
      obtain ⟨x', e1, e2⟩ := h10.end_
      have HE := Lib.hid (And.intro e1 e2)
      clear e1 e2 h10 f9 h9 back hr5 H5
      simp [Leaves, settle, results, Tryd.results39, go_sem, c9]
      exact ⟨rfl, x', HE.out⟩
  · have ce : w3.cell? ⟨sz + 1 + 1, 0, none⟩ = some (.int .i64 0) := by rw [cell_of_row _ _ _ _ _ _ (h3.row (List.mem_cons_self ..))]; rfl
    have cf : ∀ j, w3.frozen? ⟨sz + 1 + 1, j, none⟩ = false := fun j => frozen_of_row w3 _ j _ _ (h3.row (List.mem_cons_self ..))
    clear c1 c2 h3
    have h5 := FAULT.out _ H3.out
    have H5 := Lib.hid h5
    clear h5
    go_wp2_with fail
    have h5 := H5.out
    obtain ⟨x5, hr5, back⟩ := h5.gone HDT.out
    have g1 := h5.row (List.mem_cons_self ..)
    have g2 := h5.row (List.mem_cons_of_mem _ HM1.out)
    have g3 := h5.row (List.mem_cons_of_mem _ HM2.out)
    refine leaves_cons (f := 70) (args := #[.pointer (some ⟨sz + 1 + 1, 0, none⟩), .pointer (some ⟨sz, 0, none⟩), .pointer (some ⟨ab, 0, none⟩)]) (by simp) (by simp [go_sem]) ?_
    refine (back_yes x5 d s rb a1 a ⟨sz + 1 + 1, 0, none⟩ ⟨sz, 0, none⟩ ⟨ab, 0, none⟩ _ _ (by rw [cell_of_row _ _ _ _ _ _ g1]; rfl) (by rw [cell_of_row _ _ _ _ _ _ g2]; rfl) (by rw [cell_of_row _ _ _ _ _ _ g3]; rfl) hr5 HA.out).mono ?_
    rintro e u' w9 ⟨rfl, rfl, f9, h9⟩
    have h10 := back _ _ f9 h9
    have c9 : w9.cell? ⟨sz + 1 + 1, 0, none⟩ = some (.int .i64 4) := by rw [cell_of_row _ _ _ _ _ _ (h10.row (List.mem_cons_self ..))]; rfl
    have ho : (o.bind fun q => if q.1 ≤ most then some q else none) = none := by
      have hg := HG.out
      cases o with
      | none => rfl
      | some q => simp at hg
    rw [ho]
    obtain ⟨x', e1, e2⟩ := h10.end_
    have HE := Lib.hid (And.intro e1 e2)
    clear e1 e2 h10 f9 h9 back hr5 H5
    simp [Leaves, settle, results, Tryd.results39, go_sem, c9]
    exact ⟨rfl, x', HE.out⟩
end Go.Proofs.YtflnpcgnenhogaaDoor.ls
namespace Go.Proofs.YtflnpcgnenhogaaDoor.ls
open Go.RowKit Go.Proofs.YtflnpcgnenhogaaDoor.own Go.Proofs.YtflnpcgnenhogaaDoor.bit

/-- a reader and rows beside it, made since w -/
def RE (x : Nat → Nat) (d t u : Nat) (w : World) (rb : Nat) (s : ByteArray) (a : Nat) (ks : List (Nat × Obj)) (W : World) : Prop :=
  ∃ x', Fr x x' (fun e => e = d ∨ e = t ∨ e = u) w W ∧ RdC x' d W rb s a ∧ ∀ p ∈ ks, x' p.1 = u ∧ W.heap[p.1]? = some p.2
theorem RE.start {x : Nat → Nat} {d t u : Nat} {w W : World} {rb a : Nat} {s : ByteArray} (h : RdC x d w rb s a) (k : Below w.heap.size w W) (ks : List (Nat × Obj)) (hk : ∀ p ∈ ks, w.heap.size ≤ p.1 ∧ W.heap[p.1]? = some p.2) : RE x d t u w rb s a ks W := by
  obtain ⟨h1, h2, h3⟩ := h
  have f2 : Fr x (paint x w.heap.size u) (fun e => e = u) w W := Fr.of_below k rfl
  exact ⟨_, f2.mono (fun c hc => .inr (.inr hc)), ⟨(k.block _ (lt_of_block h1)).trans h1, (paint_old (lt_of_block h1)).trans h2, h3⟩, fun p hp => ⟨paint_new (hk p hp).1, (hk p hp).2⟩⟩
theorem RE.row {x : Nat → Nat} {d t u : Nat} {w W : World} {rb a : Nat} {s : ByteArray} {ks : List (Nat × Obj)} (h : RE x d t u w rb s a ks W) {b : Nat} {o : Obj} (hm : (b, o) ∈ ks) : W.heap[b]? = some o := by
  obtain ⟨x', _, _, hk⟩ := h
  exact (hk _ hm).2
theorem RE.le {x : Nat → Nat} {d t u : Nat} {w W : World} {rb a : Nat} {s : ByteArray} {ks : List (Nat × Obj)} (h : RE x d t u w rb s a ks W) : a ≤ 8 * s.size := by
  obtain ⟨x', _, hr, _⟩ := h
  exact hr.2.2.1
theorem RE.next {x : Nat → Nat} {d t u : Nat} {w W W' : World} {rb a : Nat} {s : ByteArray} {ks : List (Nat × Obj)} (h : RE x d t u w rb s a ks W) (k : Below W.heap.size W W') : RE x d t u w rb s a ks W' := by
  obtain ⟨x', hf, ⟨h1, h2, h3⟩, hk⟩ := h
  have f2 : Fr x' (paint x' W.heap.size u) (fun e => e = u) W W' := Fr.of_below k rfl
  refine ⟨_, hf.trans (f2.mono (fun c hc => .inr (.inr hc))), ⟨(k.block _ (lt_of_block h1)).trans h1, (paint_old (lt_of_block h1)).trans h2, h3⟩, fun p hp => ?_⟩
  obtain ⟨h4, h5⟩ := hk p hp
  exact ⟨(paint_old (lt_of_block h5)).trans h4, (k.block _ (lt_of_block h5)).trans h5⟩
theorem RE.at_ {x : Nat → Nat} {d t u : Nat} {w W : World} {rb a : Nat} {s : ByteArray} {ks : List (Nat × Obj)} (h : RE x d t u w rb s a ks W) :
    Calls Tryd.prog 24 #[.pointer (some ⟨rb, 0, none⟩)] W fun e w' => e = .returned (.int .i64 (a : Int)) ∧ W = w' := by
  obtain ⟨x', _, hr, _⟩ := h
  exact At_any x' d W rb s a hr
theorem RE.read {x : Nat → Nat} {d t u : Nat} (hdt : d ≠ t) (hdu : d ≠ u) (htu : t ≠ u) {w W : World} {rb a : Nat} {s : ByteArray} {ks : List (Nat × Obj)} (h : RE x d t u w rb s a ks W) (c : Cd) (hc : c.ok) :
    Calls Tryd.prog 39 #[.pointer (some ⟨rb, 0, none⟩), cdV c] W fun e w' => e = .returned (rdV (rd c ((unpack (nats s)).drop a))) ∧ RE x d t u w rb s (rdA a (rd c ((unpack (nats s)).drop a))) ks w' := by
  obtain ⟨x', hf, hr, hk⟩ := h
  refine (cread_any x' d t hdt c hc W rb s a hr).mono ?_
  rintro e w' ⟨rfl, x2, f2, h2⟩
  refine ⟨rfl, x2, hf.trans (f2.mono (fun c hc => by rcases hc with h | h; exact .inl h; exact .inr (.inl h))), h2, fun p hp => ?_⟩
  obtain ⟨h1, h3⟩ := hk p hp
  exact ⟨(f2.col _ (lt_of_block h3)).trans h1, (f2.old _ (lt_of_block h3) (by show ¬ (x' p.1 = d ∨ x' p.1 = t); rw [h1]; rintro (e | e); exact hdu e.symm; exact htu e.symm)).trans h3⟩
theorem RE.seek {x : Nat → Nat} {d t u : Nat} (hdu : d ≠ u) {w W : World} {rb a : Nat} {s : ByteArray} {ks : List (Nat × Obj)} (h : RE x d t u w rb s a ks W) (a0 : Nat) (ha : a0 ≤ 8 * s.size) :
    Calls Tryd.prog 40 #[.pointer (some ⟨rb, 0, none⟩), .int .i64 (a0 : Int)] W fun e w' => e = .returned (.int .i64 0) ∧ RE x d t u w rb s a0 ks w' := by
  obtain ⟨x', hf, hr, hk⟩ := h
  refine (Seek_any x' d s a a0 rb W hr ha).mono ?_
  rintro e w' ⟨rfl, f2, h2⟩
  refine ⟨rfl, x', hf.trans (f2.mono (fun c hc => .inl hc)), h2, fun p hp => ?_⟩
  obtain ⟨h1, h3⟩ := hk p hp
  exact ⟨h1, (f2.old _ (lt_of_block h3) (by show ¬ x' p.1 = d; rw [h1]; exact fun e => hdu e.symm)).trans h3⟩

theorem RE.set2 {x : Nat → Nat} {d t u : Nat} (hdu : d ≠ u) {w W : World} {rb a : Nat} {s : ByteArray} {ks : List (Nat × Obj)} (h : RE x d t u w rb s a ks W) {b : Nat} {v0 v1 : Value} {T : TypeId} (hm : (b, Obj.cells #[v0, v1] T (0, 0)) ∈ ks) (a0 a1 : Value) :
    RE x d t u w rb s a [(b, .cells #[a0, a1] T (0, 0))] ((W.setCell ⟨b, 0, none⟩ a0).setCell ⟨b, 1, none⟩ a1) := by
  obtain ⟨x', hf, ⟨hr1, hr2, hr3⟩, hk⟩ := h
  obtain ⟨hx, hb⟩ := hk _ hm
  have ne : ∀ c, c ≠ b → ((W.setCell ⟨b, 0, none⟩ a0).setCell ⟨b, 1, none⟩ a1).heap[c]? = W.heap[c]? := fun c hc => (Below.heap_setCell _ ⟨b, 1, none⟩ _ c hc).trans (Below.heap_setCell W ⟨b, 0, none⟩ _ c hc)
  have f2 : Fr x' x' (fun c => c = u) W ((W.setCell ⟨b, 0, none⟩ a0).setCell ⟨b, 1, none⟩ a1) := Fr.same rfl rfl rfl (by simp) (fun c _ hd => ne c (fun e => hd (by rw [e]; exact hx)))
  refine ⟨x', hf.trans (f2.mono (fun c hc => .inr (.inr hc))), ⟨(ne _ (fun e => by rw [e] at hr2; exact hdu (hr2.symm.trans hx))).trans hr1, hr2, hr3⟩, fun q hq => ?_⟩
  simp only [List.mem_cons, List.not_mem_nil, or_false] at hq
  subst hq
  refine ⟨hx, ?_⟩
  show ((W.setCell ⟨b, 0, none⟩ a0).setCell ⟨b, 1, none⟩ a1).heap[b]? = _
  have h1 : (W.setCell ⟨b, 0, none⟩ a0).heap[b]? = some (.cells #[a0, v1] T (0, 0)) := by rw [heap_setCell_same W b 0 _ _ _ hb]; rfl
  rw [heap_setCell_same _ b 1 _ _ _ h1]
  rfl

/-- a head as bits tell it: degree, reference, the place behind -/
def hread (win : Nat) (B : Bits) (a : Nat) : Option (Nat × Nat × Nat) :=
  (rd .gam (B.drop a)).bind fun q => if 0 < q.1 ∧ 0 < win then (rd .una (B.drop (a + q.2))).bind fun q2 => if q.1 ≤ 65536 ∧ q2.1 ≤ win then some (q.1, q2.1, a + q.2 + q2.2) else none
    else if q.1 ≤ 65536 then some (q.1, 0, a + q.2) else none
def hrV : Option (Nat × Nat × Nat) → Value
  | some q => .tuple #[.agg #[.int .i64 (q.1 : Int), .int .i64 (q.2.1 : Int)], .int .i64 0]
  | none => .tuple #[.agg #[.int .i64 0, .int .i64 0], .int .i64 4]
def hrA (a : Nat) : Option (Nat × Nat × Nat) → Nat
  | some q => q.2.2
  | none => a
set_option maxRecDepth 100000 in
set_option maxHeartbeats 6400000 in
theorem head_any (x0 : Nat → Nat) (d t u : Nat) (hdt : d ≠ t) (hdu : d ≠ u) (htu : t ≠ u) (p : Pr) (hp : p.ok) (w : World) (hG : GL w) (hgl : x0 0 ≠ d ∧ x0 0 ≠ t ∧ x0 0 ≠ u ∧ x0 1 ≠ d ∧ x0 1 ≠ t ∧ x0 1 ≠ u) (rb : Nat) (s : ByteArray) (a : Nat) (h : RdC x0 d w rb s a) :
    Calls Tryd.prog 21 #[.pointer (some ⟨rb, 0, none⟩), parV (p.win : Int) (p.itv : Int) (p.zet : Int)] w fun e w' =>
      e = .returned (hrV (hread p.win (unpack (nats s)) a)) ∧ ∃ x', Fr x0 x' (fun e => e = d ∨ e = t ∨ e = u) w w' ∧ RdC x' d w' rb s (hrA a (hread p.win (unpack (nats s)) a)) := by
  obtain ⟨hp1, hp2, hp3⟩ := hp
  have CK := Lib.hid (fun W => pcheck_any (p.win : Int) (p.itv : Int) (p.zet : Int) W)
  rw [if_pos (show ParOk (p.win : Int) (p.itv : Int) (p.zet : Int) from ⟨by omega, by omega, by omega, by omega, by omega⟩)] at CK
  have GF := Lib.hid (fun (W : World) (a' : Nat) (ks : List (Nat × Obj)) (h : RE x0 d t u w rb s a' ks W) => show GL W from by
    obtain ⟨x', hf, _⟩ := h
    have b0 : w.heap[0]? = w.heap[0]? := rfl
    have k0 := hf.old 0 (World.block_lt_of_cell? _ _ hG.g0) (by rintro (e | e | e); exact hgl.1 e; exact hgl.2.1 e; exact hgl.2.2.1 e)
    have k1 := hf.old 1 (World.block_lt_of_cell? _ _ hG.u0) (by rintro (e | e | e); exact hgl.2.2.2.1 e; exact hgl.2.2.2.2.1 e; exact hgl.2.2.2.2.2 e)
    exact ⟨(World.cell?_of_block (w := w) k0).trans hG.g0, (World.cell?_of_block (w := w) k0).trans hG.g1, (World.cell?_of_block (w := w) k1).trans hG.u0, (World.cell?_of_block (w := w) k1).trans hG.u1⟩)
  have D := Lib.hid (And.intro hdt (And.intro hdu htu))
  have H := Lib.hid h
  have HB := Lib.hid (fun v n a' (h : rd .gam ((unpack (nats s)).drop a') = some (v, n)) => rd_bound .gam trivial h)
  have HB2 := Lib.hid (fun v n a' (h : rd .una ((unpack (nats s)).drop a') = some (v, n)) => rd_bound .una trivial h)
  obtain ⟨B, hB⟩ : ∃ B, unpack (nats s) = B := ⟨_, rfl⟩
  have HBB := Lib.hid hB
  rw [hB] at HB HB2 ⊢
  have RDf := Lib.hid (fun (W : World) (a' : Nat) (ks : List (Nat × Obj)) (c : Cd) (hc : c.ok) (h : RE x0 d t u w rb s a' ks W) => h.read hdt hdu htu c hc)
  rw [hB] at RDf
  have ha := h.2.2.1
  obtain ⟨win, itv, zet⟩ := p
  unfold parV at CK ⊢
  dsimp only at hp1 hp2 hp3 CK ⊢
  obtain ⟨A, hA⟩ : ∃ A, hread win B a = A := ⟨_, rfl⟩
  have HA := Lib.hid hA
  rw [hA]
  clear hG hgl hdt hdu htu h hB hA
  go_enter Tryd.func21, Tryd.ntmps21
  go_upto_region 1 with fail
  generalize hW : World.alloc (World.alloc w _) _ = W0
  obtain ⟨r1, r2, kb⟩ := rows2 hW
  obtain ⟨sz, hsz⟩ : ∃ z, w.heap.size = z := ⟨_, rfl⟩
  have E0 := Lib.hid (RE.start (t := t) (u := u) H.out kb [(sz, .cells #[.int .i64 (win : Int), .int .i64 (itv : Int), .int .i64 (zet : Int)] 38 (0, 0)), (sz + 1, .cells #[.int .i64 0, .int .i64 0] 55 (0, 0))] (fun q hq => by
    simp only [List.mem_cons, List.not_mem_nil, or_false] at hq
    rcases hq with rfl | rfl
    · exact ⟨by show w.heap.size ≤ sz; omega, hsz ▸ r1⟩
    · exact ⟨by show w.heap.size ≤ sz + 1; omega, hsz ▸ r2⟩))
  rw [hsz] at r1 r2 ⊢
  obtain ⟨ks, hks⟩ : ∃ ks, ks = [(sz, Obj.cells #[.int .i64 (win : Int), .int .i64 (itv : Int), .int .i64 (zet : Int)] 38 (0, 0)), (sz + 1, .cells #[.int .i64 0, .int .i64 0] 55 (0, 0))] := ⟨_, rfl⟩
  have M1 : Hid ((sz, Obj.cells #[.int .i64 (win : Int), .int .i64 (itv : Int), .int .i64 (zet : Int)] 38 (0, 0)) ∈ ks) := Lib.hid (by rw [hks]; simp)
  have M2 : Hid ((sz + 1, Obj.cells #[.int .i64 0, .int .i64 0] 55 (0, 0)) ∈ ks) := Lib.hid (by rw [hks]; simp)
  rw [← hks] at E0
  have c0 : W0.cell? ⟨sz, 0, none⟩ = some (.int .i64 (win : Int)) := by rw [cell_of_row _ _ _ _ _ _ r1]; rfl
  have c1 : W0.cell? ⟨sz, 1, none⟩ = some (.int .i64 (itv : Int)) := by rw [cell_of_row _ _ _ _ _ _ r1]; rfl
  have c2 : W0.cell? ⟨sz, 2, none⟩ = some (.int .i64 (zet : Int)) := by rw [cell_of_row _ _ _ _ _ _ r1]; rfl
  clear hW r1 r2 kb hks hsz
  go_wp2_with fail
  with_reducible refine (CK.out _).mono ?_
  rintro e w1 ⟨rfl, k1⟩
  have E1 := Lib.hid (E0.out.next k1)
  clear c0 c1 c2 k1 E0
  go_wp2_with fail
  with_reducible refine E1.out.at_.mono ?_
  rintro e w2 ⟨rfl, rfl⟩
  have g1 := GF.out _ _ _ E1.out
  have gg0 := g1.g0
  have gg1 := g1.g1
  have RG := Lib.hid (RDf.out _ _ _ .gam trivial E1.out)
  clear g1
  obtain ⟨o1, ho1⟩ : ∃ o, rd .gam (B.drop a) = o := ⟨_, rfl⟩
  have HO1 := Lib.hid ho1
  rw [ho1] at RG
  unfold cdV at RG
  clear ho1
  go_wp2_with fail
  with_reducible refine RG.out.mono ?_
  rintro e w3 ⟨rfl, h3⟩
  have E3 := Lib.hid h3
  clear h3 gg0 gg1 RG E1
  cases o1 with
  | none =>
    have AN : Hid (A = none) := Lib.hid (by rw [← HA.out]; unfold hread; rw [HO1.out]; rfl)
    unfold rdV
    have SK := Lib.hid (E3.out.seek D.out.2.1 a ha)
    go_wp2_with fail
    with_reducible refine SK.out.mono ?_
    rintro e w9 ⟨rfl, h4⟩
    have E4 := Lib.hid h4
    clear h4
    have r4 := E4.out.row M2.out
    have q0 : w9.cell? ⟨sz + 1, 0, none⟩ = some (.int .i64 0) := by rw [cell_of_row _ _ _ _ _ _ r4]; rfl
    have q1 : w9.cell? ⟨sz + 1, 1, none⟩ = some (.int .i64 0) := by rw [cell_of_row _ _ _ _ _ _ r4]; rfl
    have qf : ∀ j, w9.frozen? ⟨sz + 1, j, none⟩ = false := fun j => frozen_of_row w9 _ j _ _ r4
    clear r4
    go_wp2_with fail
    have E5 := Lib.hid (E4.out.set2 D.out.2.1 M2.out (.int .i64 0) (.int .i64 0))
    have r5 := E5.out.row (List.mem_cons_self ..)
    generalize World.setCell (World.setCell _ _ _) _ _ = W5 at r5 E5 ⊢
    have q0 : W5.cell? ⟨sz + 1, 0, none⟩ = some (.int .i64 0) := by rw [cell_of_row _ _ _ _ _ _ r5]; rfl
    have q1 : W5.cell? ⟨sz + 1, 1, none⟩ = some (.int .i64 0) := by rw [cell_of_row _ _ _ _ _ _ r5]; rfl
    rw [AN.out]
    refine bodyPost_ret (v := hrV none) (by simp [results, Tryd.results21, go_sem, hrV, q0, q1]) rfl ⟨rfl, ?_⟩
    obtain ⟨x', hf, hr, _⟩ := E5.out
    exact ⟨x', hf, hr⟩
  | some q =>
    obtain ⟨v, n1⟩ := q
    have hv : v ≤ 281474976710654 := (HB.out _ _ _ HO1.out).1
    unfold rdV
    dsimp only [rdA] at E3 ⊢
    by_cases hc : 0 < v ∧ 0 < win
    · obtain ⟨hv0, hw0⟩ := hc
      have rc := E3.out.row M1.out
      have c0 : w3.cell? ⟨sz, 0, none⟩ = some (.int .i64 (win : Int)) := by rw [cell_of_row _ _ _ _ _ _ rc]; rfl
      clear rc
      have g1 := GF.out _ _ _ E3.out
      have gu0 := g1.u0
      have gu1 := g1.u1
      clear g1
      have RU := Lib.hid (RDf.out _ _ _ .una trivial E3.out)
      obtain ⟨o2, ho2⟩ : ∃ o, rd .una (B.drop (a + n1)) = o := ⟨_, rfl⟩
      have HO2 := Lib.hid ho2
      rw [ho2] at RU
      unfold cdV at RU
      have AH : Hid (A = o2.bind fun q2 => if v ≤ 65536 ∧ q2.1 ≤ win then some (v, q2.1, a + n1 + q2.2) else none) := Lib.hid (by rw [← HA.out]; unfold hread; rw [HO1.out, Option.bind_some, if_pos ⟨hv0, hw0⟩]; dsimp only; rw [ho2])
      clear ho2
      have i1 : decide ((0 : Int) < (v : Int)) = true := decide_eq_true (by omega)
      have i1n : decide (0 < v) = true := decide_eq_true (by omega)
      have i2 : decide ((0 : Int) < (win : Int)) = true := decide_eq_true (by omega)
      have i2n : decide (0 < win) = true := decide_eq_true (by omega)
      go_wp2_with fail
      with_reducible refine RU.out.mono ?_
      rintro e w5 ⟨rfl, h5⟩
      have E6 := Lib.hid h5
      clear h5 RU gu0 gu1 c0 i1 i1n i2 i2n
      have rc := E6.out.row M1.out
      have c0 : w5.cell? ⟨sz, 0, none⟩ = some (.int .i64 (win : Int)) := by rw [cell_of_row _ _ _ _ _ _ rc]; rfl
      clear rc
      cases o2 with
      | none =>
        have AN : Hid (A = none) := Lib.hid (by rw [AH.out]; rfl)
        unfold rdV
        have SK := Lib.hid (E6.out.seek D.out.2.1 a ha)
        go_wp2_with fail
        with_reducible refine SK.out.mono ?_
        rintro e w9 ⟨rfl, h4⟩
        have E4 := Lib.hid h4
        clear h4
        have r4 := E4.out.row M2.out
        have q0 : w9.cell? ⟨sz + 1, 0, none⟩ = some (.int .i64 0) := by rw [cell_of_row _ _ _ _ _ _ r4]; rfl
        have q1 : w9.cell? ⟨sz + 1, 1, none⟩ = some (.int .i64 0) := by rw [cell_of_row _ _ _ _ _ _ r4]; rfl
        have qf : ∀ j, w9.frozen? ⟨sz + 1, j, none⟩ = false := fun j => frozen_of_row w9 _ j _ _ r4
        clear r4
        go_wp2_with fail
        have E5 := Lib.hid (E4.out.set2 D.out.2.1 M2.out (.int .i64 0) (.int .i64 0))
        have r5 := E5.out.row (List.mem_cons_self ..)
        generalize World.setCell (World.setCell _ _ _) _ _ = W5 at r5 E5 ⊢
        have q0 : W5.cell? ⟨sz + 1, 0, none⟩ = some (.int .i64 0) := by rw [cell_of_row _ _ _ _ _ _ r5]; rfl
        have q1 : W5.cell? ⟨sz + 1, 1, none⟩ = some (.int .i64 0) := by rw [cell_of_row _ _ _ _ _ _ r5]; rfl
        rw [AN.out]
        refine bodyPost_ret (v := hrV none) (by simp [results, Tryd.results21, go_sem, hrV, q0, q1]) rfl ⟨rfl, ?_⟩
        obtain ⟨x', hf, hr, _⟩ := E5.out
        exact ⟨x', hf, hr⟩
      | some q2 =>
        obtain ⟨r, n2⟩ := q2
        have hr : r ≤ 65535 := (HB2.out _ _ _ HO2.out).1
        unfold rdV
        dsimp only [rdA] at E6 ⊢
        by_cases hv6 : v ≤ 65536
        · by_cases hrw : r ≤ win
          · have AN : Hid (A = some (v, r, a + n1 + n2)) := Lib.hid (by rw [AH.out, Option.bind_some, if_pos ⟨hv6, hrw⟩])
            have i3 : decide ((65536 : Int) < (v : Int)) = false := decide_eq_false (by omega)
            have i3n : decide (65536 < v) = false := decide_eq_false (by omega)
            have i4 : decide ((win : Int) < (r : Int)) = false := decide_eq_false (by omega)
            have i4n : decide (win < r) = false := decide_eq_false (by omega)
            have r4 := E6.out.row M2.out
            have q0 : w5.cell? ⟨sz + 1, 0, none⟩ = some (.int .i64 0) := by rw [cell_of_row _ _ _ _ _ _ r4]; rfl
            have q1 : w5.cell? ⟨sz + 1, 1, none⟩ = some (.int .i64 0) := by rw [cell_of_row _ _ _ _ _ _ r4]; rfl
            have qf : ∀ j, w5.frozen? ⟨sz + 1, j, none⟩ = false := fun j => frozen_of_row w5 _ j _ _ r4
            clear r4
            go_wp2_with fail
            have E5 := Lib.hid (E6.out.set2 D.out.2.1 M2.out (.int .i64 (v : Int)) (.int .i64 (r : Int)))
            have r5 := E5.out.row (List.mem_cons_self ..)
            generalize World.setCell (World.setCell _ _ _) _ _ = W5 at r5 E5 ⊢
            have q0 : W5.cell? ⟨sz + 1, 0, none⟩ = some (.int .i64 (v : Int)) := by rw [cell_of_row _ _ _ _ _ _ r5]; rfl
            have q1 : W5.cell? ⟨sz + 1, 1, none⟩ = some (.int .i64 (r : Int)) := by rw [cell_of_row _ _ _ _ _ _ r5]; rfl
            rw [AN.out]
            refine bodyPost_ret (v := hrV (some (v, r, a + n1 + n2))) (by simp [results, Tryd.results21, go_sem, hrV, q0, q1]) rfl ⟨rfl, ?_⟩
            obtain ⟨x', hf, hr, _⟩ := E5.out
            exact ⟨x', hf, hr⟩
          · have AN : Hid (A = none) := Lib.hid (by rw [AH.out, Option.bind_some, if_neg (fun h => hrw h.2)])
            have i3 : decide ((65536 : Int) < (v : Int)) = false := decide_eq_false (by omega)
            have i3n : decide (65536 < v) = false := decide_eq_false (by omega)
            have i4 : decide ((win : Int) < (r : Int)) = true := decide_eq_true (by omega)
            have i4n : decide (win < r) = true := decide_eq_true (by omega)
            have SK := Lib.hid (E6.out.seek D.out.2.1 a ha)
            go_wp2_with fail
            with_reducible refine SK.out.mono ?_
            rintro e w9 ⟨rfl, h4⟩
            have E4 := Lib.hid h4
            clear h4
            have r4 := E4.out.row M2.out
            have q0 : w9.cell? ⟨sz + 1, 0, none⟩ = some (.int .i64 0) := by rw [cell_of_row _ _ _ _ _ _ r4]; rfl
            have q1 : w9.cell? ⟨sz + 1, 1, none⟩ = some (.int .i64 0) := by rw [cell_of_row _ _ _ _ _ _ r4]; rfl
            have qf : ∀ j, w9.frozen? ⟨sz + 1, j, none⟩ = false := fun j => frozen_of_row w9 _ j _ _ r4
            clear r4
            go_wp2_with fail
            have E5 := Lib.hid (E4.out.set2 D.out.2.1 M2.out (.int .i64 0) (.int .i64 0))
            have r5 := E5.out.row (List.mem_cons_self ..)
            generalize World.setCell (World.setCell _ _ _) _ _ = W5 at r5 E5 ⊢
            have q0 : W5.cell? ⟨sz + 1, 0, none⟩ = some (.int .i64 0) := by rw [cell_of_row _ _ _ _ _ _ r5]; rfl
            have q1 : W5.cell? ⟨sz + 1, 1, none⟩ = some (.int .i64 0) := by rw [cell_of_row _ _ _ _ _ _ r5]; rfl
            rw [AN.out]
            refine bodyPost_ret (v := hrV none) (by simp [results, Tryd.results21, go_sem, hrV, q0, q1]) rfl ⟨rfl, ?_⟩
            obtain ⟨x', hf, hr, _⟩ := E5.out
            exact ⟨x', hf, hr⟩
        · have AN : Hid (A = none) := Lib.hid (by rw [AH.out, Option.bind_some, if_neg (fun h => hv6 h.1)])
          have i3 : decide ((65536 : Int) < (v : Int)) = true := decide_eq_true (by omega)
          have i3n : decide (65536 < v) = true := decide_eq_true (by omega)
          have SK := Lib.hid (E6.out.seek D.out.2.1 a ha)
          go_wp2_with fail
          with_reducible refine SK.out.mono ?_
          rintro e w9 ⟨rfl, h4⟩
          have E4 := Lib.hid h4
          clear h4
          have r4 := E4.out.row M2.out
          have q0 : w9.cell? ⟨sz + 1, 0, none⟩ = some (.int .i64 0) := by rw [cell_of_row _ _ _ _ _ _ r4]; rfl
          have q1 : w9.cell? ⟨sz + 1, 1, none⟩ = some (.int .i64 0) := by rw [cell_of_row _ _ _ _ _ _ r4]; rfl
          have qf : ∀ j, w9.frozen? ⟨sz + 1, j, none⟩ = false := fun j => frozen_of_row w9 _ j _ _ r4
          clear r4
          go_wp2_with fail
          have E5 := Lib.hid (E4.out.set2 D.out.2.1 M2.out (.int .i64 0) (.int .i64 0))
          have r5 := E5.out.row (List.mem_cons_self ..)
          generalize World.setCell (World.setCell _ _ _) _ _ = W5 at r5 E5 ⊢
          have q0 : W5.cell? ⟨sz + 1, 0, none⟩ = some (.int .i64 0) := by rw [cell_of_row _ _ _ _ _ _ r5]; rfl
          have q1 : W5.cell? ⟨sz + 1, 1, none⟩ = some (.int .i64 0) := by rw [cell_of_row _ _ _ _ _ _ r5]; rfl
          rw [AN.out]
          refine bodyPost_ret (v := hrV none) (by simp [results, Tryd.results21, go_sem, hrV, q0, q1]) rfl ⟨rfl, ?_⟩
          obtain ⟨x', hf, hr, _⟩ := E5.out
          exact ⟨x', hf, hr⟩
    · have AH : Hid (A = if v ≤ 65536 then some (v, 0, a + n1) else none) := Lib.hid (by rw [← HA.out]; unfold hread; rw [HO1.out, Option.bind_some, if_neg hc])
      have rc := E3.out.row M1.out
      have c0 : w3.cell? ⟨sz, 0, none⟩ = some (.int .i64 (win : Int)) := by rw [cell_of_row _ _ _ _ _ _ rc]; rfl
      clear rc
      have i5 : decide ((win : Int) < 0) = false := decide_eq_false (by omega)
      have i5n : decide (win < 0) = false := decide_eq_false (by omega)
      by_cases hv0 : 0 < v
      · have hw0 : ¬ 0 < win := fun h => hc ⟨hv0, h⟩
        have i1 : decide ((0 : Int) < (v : Int)) = true := decide_eq_true (by omega)
        have i1n : decide (0 < v) = true := decide_eq_true (by omega)
        have i2 : decide ((0 : Int) < (win : Int)) = false := decide_eq_false (by omega)
        have i2n : decide (0 < win) = false := decide_eq_false (by omega)
        by_cases hv6 : v ≤ 65536
        · have AN : Hid (A = some (v, 0, a + n1)) := Lib.hid (by rw [AH.out, if_pos hv6])
          have i3 : decide ((65536 : Int) < (v : Int)) = false := decide_eq_false (by omega)
          have i3n : decide (65536 < v) = false := decide_eq_false (by omega)
          have r4 := E3.out.row M2.out
          have q0 : w3.cell? ⟨sz + 1, 0, none⟩ = some (.int .i64 0) := by rw [cell_of_row _ _ _ _ _ _ r4]; rfl
          have q1 : w3.cell? ⟨sz + 1, 1, none⟩ = some (.int .i64 0) := by rw [cell_of_row _ _ _ _ _ _ r4]; rfl
          have qf : ∀ j, w3.frozen? ⟨sz + 1, j, none⟩ = false := fun j => frozen_of_row w3 _ j _ _ r4
          clear r4
          go_wp2_with fail
          have E5 := Lib.hid (E3.out.set2 D.out.2.1 M2.out (.int .i64 (v : Int)) (.int .i64 ((0 : Nat) : Int)))
          have r5 := E5.out.row (List.mem_cons_self ..)
          generalize World.setCell (World.setCell _ _ _) _ _ = W5 at r5 E5 ⊢
          have q0 : W5.cell? ⟨sz + 1, 0, none⟩ = some (.int .i64 (v : Int)) := by rw [cell_of_row _ _ _ _ _ _ r5]; rfl
          have q1 : W5.cell? ⟨sz + 1, 1, none⟩ = some (.int .i64 ((0 : Nat) : Int)) := by rw [cell_of_row _ _ _ _ _ _ r5]; rfl
          rw [AN.out]
          refine bodyPost_ret (v := hrV (some (v, (0 : Nat), a + n1))) (by simp [results, Tryd.results21, go_sem, hrV, q0, q1]) rfl ⟨rfl, ?_⟩
          obtain ⟨x', hf, hr, _⟩ := E5.out
          exact ⟨x', hf, hr⟩
        · have AN : Hid (A = none) := Lib.hid (by rw [AH.out, if_neg hv6])
          have i3 : decide ((65536 : Int) < (v : Int)) = true := decide_eq_true (by omega)
          have i3n : decide (65536 < v) = true := decide_eq_true (by omega)
          have SK := Lib.hid (E3.out.seek D.out.2.1 a ha)
          go_wp2_with fail
          with_reducible refine SK.out.mono ?_
          rintro e w9 ⟨rfl, h4⟩
          have E4 := Lib.hid h4
          clear h4
          have r4 := E4.out.row M2.out
          have q0 : w9.cell? ⟨sz + 1, 0, none⟩ = some (.int .i64 0) := by rw [cell_of_row _ _ _ _ _ _ r4]; rfl
          have q1 : w9.cell? ⟨sz + 1, 1, none⟩ = some (.int .i64 0) := by rw [cell_of_row _ _ _ _ _ _ r4]; rfl
          have qf : ∀ j, w9.frozen? ⟨sz + 1, j, none⟩ = false := fun j => frozen_of_row w9 _ j _ _ r4
          clear r4
          go_wp2_with fail
          have E5 := Lib.hid (E4.out.set2 D.out.2.1 M2.out (.int .i64 0) (.int .i64 0))
          have r5 := E5.out.row (List.mem_cons_self ..)
          generalize World.setCell (World.setCell _ _ _) _ _ = W5 at r5 E5 ⊢
          have q0 : W5.cell? ⟨sz + 1, 0, none⟩ = some (.int .i64 0) := by rw [cell_of_row _ _ _ _ _ _ r5]; rfl
          have q1 : W5.cell? ⟨sz + 1, 1, none⟩ = some (.int .i64 0) := by rw [cell_of_row _ _ _ _ _ _ r5]; rfl
          rw [AN.out]
          refine bodyPost_ret (v := hrV none) (by simp [results, Tryd.results21, go_sem, hrV, q0, q1]) rfl ⟨rfl, ?_⟩
          obtain ⟨x', hf, hr, _⟩ := E5.out
          exact ⟨x', hf, hr⟩
      · have hz : v = 0 := by omega
        subst hz
        have AN : Hid (A = some (0, 0, a + n1)) := Lib.hid (by rw [AH.out, if_pos (by omega)])
        have r4 := E3.out.row M2.out
        have q0 : w3.cell? ⟨sz + 1, 0, none⟩ = some (.int .i64 0) := by rw [cell_of_row _ _ _ _ _ _ r4]; rfl
        have q1 : w3.cell? ⟨sz + 1, 1, none⟩ = some (.int .i64 0) := by rw [cell_of_row _ _ _ _ _ _ r4]; rfl
        have qf : ∀ j, w3.frozen? ⟨sz + 1, j, none⟩ = false := fun j => frozen_of_row w3 _ j _ _ r4
        clear r4
        go_wp2_with fail
        have E5 := Lib.hid (E3.out.set2 D.out.2.1 M2.out (.int .i64 ((0 : Nat) : Int)) (.int .i64 ((0 : Nat) : Int)))
        have r5 := E5.out.row (List.mem_cons_self ..)
        generalize World.setCell (World.setCell _ _ _) _ _ = W5 at r5 E5 ⊢
        have q0 : W5.cell? ⟨sz + 1, 0, none⟩ = some (.int .i64 ((0 : Nat) : Int)) := by rw [cell_of_row _ _ _ _ _ _ r5]; rfl
        have q1 : W5.cell? ⟨sz + 1, 1, none⟩ = some (.int .i64 ((0 : Nat) : Int)) := by rw [cell_of_row _ _ _ _ _ _ r5]; rfl
        rw [AN.out]
        refine bodyPost_ret (v := hrV (some ((0 : Nat), (0 : Nat), a + n1))) (by simp [results, Tryd.results21, go_sem, hrV, q0, q1]) rfl ⟨rfl, ?_⟩
        obtain ⟨x', hf, hr, _⟩ := E5.out
        exact ⟨x', hf, hr⟩
end Go.Proofs.YtflnpcgnenhogaaDoor.ls
namespace Go.Proofs.YtflnpcgnenhogaaDoor.ls
open Go.RowKit Go.Proofs.YtflnpcgnenhogaaDoor.own Go.Proofs.YtflnpcgnenhogaaDoor.bit

theorem RE.mark {x : Nat → Nat} {d t u : Nat} (hdu : d ≠ u) {w W : World} {rb a qb : Nat} {s : ByteArray} {ks : List (Nat × Obj)} {v0 v1 : Value} {T : TypeId} (h : RE x d t u w rb s a ((qb, .cells #[v0, v1] T (0, 0)) :: ks) W) (hne : ∀ p ∈ ks, p.1 ≠ qb) (v : Value) :
    RE x d t u w rb s a ((qb, .cells #[v0, v] T (0, 0)) :: ks) (W.setCell ⟨qb, 1, none⟩ v) := by
  obtain ⟨x', hf, ⟨hr1, hr2, hr3⟩, hk⟩ := h
  obtain ⟨hx, hb⟩ := hk _ (List.mem_cons_self ..)
  have hb' : W.heap[qb]? = some (.cells #[v0, v1] T (0, 0)) := hb
  have hx' : x' qb = u := hx
  have ne : ∀ c, c ≠ qb → (W.setCell ⟨qb, 1, none⟩ v).heap[c]? = W.heap[c]? := fun c hc => Below.heap_setCell W ⟨qb, 1, none⟩ _ c hc
  have f2 : Fr x' x' (fun c => c = u) W (W.setCell ⟨qb, 1, none⟩ v) := Fr.same rfl rfl rfl (by simp) (fun c _ hd => ne c (fun e => hd (by rw [e]; exact hx')))
  refine ⟨x', hf.trans (f2.mono (fun c hc => .inr (.inr hc))), ⟨(ne _ (fun e => by rw [e] at hr2; exact hdu (hr2.symm.trans hx'))).trans hr1, hr2, hr3⟩, fun p hp => ?_⟩
  rcases List.mem_cons.1 hp with rfl | hp
  · refine ⟨hx', ?_⟩
    show (W.setCell ⟨qb, 1, none⟩ v).heap[qb]? = _
    rw [heap_setCell_same W qb 1 _ _ _ hb']; rfl
  · obtain ⟨h1, h2⟩ := hk p (List.mem_cons_of_mem _ hp)
    exact ⟨h1, (ne _ (hne p hp)).trans h2⟩
theorem RE.keep {x : Nat → Nat} {d t u : Nat} {w W : World} {rb a : Nat} {s : ByteArray} {ks : List (Nat × Obj)} (h : RE x d t u w rb s a ks W) (row : Array Value) (T : TypeId) : RE x d t u w rb s a ((W.heap.size, .cells row T (0, 0)) :: ks) (W.alloc (.cells row T)) := by
  obtain ⟨x', hf, ⟨h1, h2, h3⟩, hk⟩ := h
  have k : Below W.heap.size W (W.alloc (.cells row T)) := (Below.refl _ _).alloc (Nat.le_refl _) _
  have f2 : Fr x' (paint x' W.heap.size u) (fun e => e = u) W (W.alloc (.cells row T)) := Fr.of_below k rfl
  refine ⟨_, hf.trans (f2.mono (fun c hc => .inr (.inr hc))), ⟨(k.block _ (lt_of_block h1)).trans h1, (paint_old (lt_of_block h1)).trans h2, h3⟩, fun p hp => ?_⟩
  rcases List.mem_cons.1 hp with rfl | hp
  · exact ⟨paint_new (Nat.le_refl _), heap_alloc_new W _⟩
  · obtain ⟨h4, h5⟩ := hk p hp
    exact ⟨(paint_old (lt_of_block h5)).trans h4, (k.block _ (lt_of_block h5)).trans h5⟩
theorem RE.sub {x : Nat → Nat} {d t u : Nat} {w W : World} {rb a : Nat} {s : ByteArray} {ks ks' : List (Nat × Obj)} (h : RE x d t u w rb s a ks W) (hs : ∀ p ∈ ks', p ∈ ks) : RE x d t u w rb s a ks' W := by
  obtain ⟨x', hf, hr, hk⟩ := h
  exact ⟨x', hf, hr, fun p hp => hk p (hs p hp)⟩
/-- a taker in memory, its reader beside -/
def TK (x : Nat → Nat) (d t u : Nat) (w : World) (rb qb : Nat) (s : ByteArray) (a : Nat) (bad : Bool) (ks : List (Nat × Obj)) (W : World) : Prop :=
  RE x d t u w rb s a ((qb, .cells #[.pointer (some ⟨rb, 0, none⟩), .bool bad] 101 (0, 0)) :: ks) W ∧ ∀ p ∈ ks, p.1 ≠ qb
/-- what a take says -/
def TakeP (o : Option (Nat × Nat)) (bad : Bool) (v a' : Nat) (bad' : Bool) : Prop :=
  match o with
  | some q => v = q.1 ∧ a' = q.2 ∧ bad' = bad
  | none => v = 0 ∧ bad' = true
end Go.Proofs.YtflnpcgnenhogaaDoor.ls
namespace Go.Proofs.YtflnpcgnenhogaaDoor.ls
open Go.RowKit Go.Proofs.YtflnpcgnenhogaaDoor.own Go.Proofs.YtflnpcgnenhogaaDoor.bit

theorem RE.drew {x : Nat → Nat} {d t u : Nat} {w W : World} {rb a : Nat} {s : ByteArray} {ks : List (Nat × Obj)} (h : RE x d t u w rb s a ks W) : RE x d t u w rb s a ks W.drew := h.next (Below.drew (Below.refl _ _))
theorem ts_mk {x : Nat → Nat} {d t u : Nat} {w W : World} {rb a sz qb : Nat} {kd kk : Int} {bad : Bool} {s : ByteArray} {ks : List (Nat × Obj)} (h : RE x d t u w rb s a ((sz, .cells #[.int .u8 kd, .int .u64 kk] 85 (0, 0)) :: (qb, .cells #[.pointer (some ⟨rb, 0, none⟩), .bool bad] 101 (0, 0)) :: ks) W) :
    W.cell? ⟨sz, 0, none⟩ = some (.int .u8 kd) ∧ W.cell? ⟨sz, 1, none⟩ = some (.int .u64 kk) ∧ W.cell? ⟨qb, 0, none⟩ = some (.pointer (some ⟨rb, 0, none⟩)) := by
  have r0 := h.row (List.mem_cons_self ..)
  have r1 := h.row (List.mem_cons_of_mem _ (List.mem_cons_self ..))
  exact ⟨by rw [cell_of_row _ _ _ _ _ _ r0]; rfl, by rw [cell_of_row _ _ _ _ _ _ r0]; rfl, by rw [cell_of_row _ _ _ _ _ _ r1]; rfl⟩
set_option maxRecDepth 100000 in
set_option maxHeartbeats 3200000 in
theorem take_any (x : Nat → Nat) (d t u : Nat) (hdt : d ≠ t) (hdu : d ≠ u) (htu : t ≠ u) (c : Cd) (hc : c.ok) (w : World) (rb qb : Nat) (s : ByteArray) (a most : Nat) (hm : most ≤ 1000000) (bad : Bool) (ks : List (Nat × Obj)) (W : World) (h : TK x d t u w rb qb s a bad ks W) :
    Calls Tryd.prog 95 #[.pointer (some ⟨qb, 0, none⟩), cdV c, .int .i64 (most : Int)] W fun e w' =>
      ∃ v a' : Nat, ∃ bad' : Bool, e = .returned (.int .i64 (v : Int)) ∧ TakeP (tk (unpack (nats s)) c most a) bad v a' bad' ∧ TK x d t u w rb qb s a' bad' ks w' := by
  obtain ⟨h1, hne⟩ := h
  have HNE := Lib.hid hne
  have HDU := Lib.hid hdu
  have HB := Lib.hid (fun v n (h : rd c ((unpack (nats s)).drop a) = some (v, n)) => rd_bound c hc h)
  have hmost : c.most ≤ 281474976710654 := by cases c <;> simp [Cd.most]
  obtain ⟨o, ho⟩ : ∃ o, rd c ((unpack (nats s)).drop a) = o := ⟨_, rfl⟩
  have TE : Hid (tk (unpack (nats s)) c most a = o.bind fun q => if q.1 ≤ most then some (q.1, a + q.2) else none) := Lib.hid (by unfold tk; rw [ho])
  have RD := Lib.hid (fun W ks (h : RE x d t u w rb s a ks W) => h.read hdt hdu htu c hc)
  rw [ho] at RD HB
  obtain ⟨O, hO⟩ : ∃ O, tk (unpack (nats s)) c most a = O := ⟨_, rfl⟩
  rw [hO] at TE ⊢
  obtain ⟨kd, kk, hcd⟩ := cdV_shape c
  rw [hcd] at RD ⊢
  generalize c.most = cm at hmost HB
  have hq := lt_of_block (h1.row (List.mem_cons_self ..))
  have h2 := h1.keep #[.int .u8 kd, .int .u64 kk] 85
  clear h1 hne hcd ho hO hdt hdu htu
  go_enter Tryd.func95, Tryd.ntmps95
  go_upto_region 1 with fail
  obtain ⟨sz, hsz⟩ : ∃ z, W.heap.size = z := ⟨_, rfl⟩
  rw [hsz] at h2 hq ⊢
  generalize World.alloc W _ = W0 at h2 ⊢
  have r0 := h2.row (List.mem_cons_self ..)
  have r1 := h2.row (List.mem_cons_of_mem _ (List.mem_cons_self ..))
  have c0 : W0.cell? ⟨sz, 0, none⟩ = some (.int .u8 kd) := by rw [cell_of_row _ _ _ _ _ _ r0]; rfl
  have c1 : W0.cell? ⟨sz, 1, none⟩ = some (.int .u64 kk) := by rw [cell_of_row _ _ _ _ _ _ r0]; rfl
  have c2 : W0.cell? ⟨qb, 0, none⟩ = some (.pointer (some ⟨rb, 0, none⟩)) := by rw [cell_of_row _ _ _ _ _ _ r1]; rfl
  have H2 := Lib.hid h2
  clear r0 r1 h2 hsz hq
  cases o with
  | none =>
    have AN : Hid (O = none) := Lib.hid (by rw [TE.out]; rfl)
    unfold rdV at RD
    go_region_held3 (fun w' => w'.cell? ⟨sz, 0, none⟩ = some (.int .u8 kd) ∧ w'.cell? ⟨sz, 1, none⟩ = some (.int .u64 kk) ∧ w'.cell? ⟨qb, 0, none⟩ = some (.pointer (some ⟨rb, 0, none⟩)))
      (first | exact ts_mk H2.out | exact ts_mk H2.out.drew | exact ts_mk (by assumption) | exact ts_mk (RE.drew (by assumption)))
      (first | (go_at_call 39; refine (RD.out _ _ (by first | exact H2.out.drew | exact H2.out)).mono ?_; rintro e w1 ⟨rfl, h3⟩))
    have T3 := Lib.hid (h3.sub (ks' := (qb, .cells #[.pointer (some ⟨rb, 0, none⟩), .bool bad] 101 (0, 0)) :: ks) (fun p hp => List.mem_cons_of_mem _ hp))
    have r1 := T3.out.row (List.mem_cons_self ..)
    have qf : ∀ j, w1.frozen? ⟨qb, j, none⟩ = false := fun j => frozen_of_row w1 _ j _ _ r1
    have q1 : w1.cell? ⟨qb, 1, none⟩ = some (.bool bad) := by rw [cell_of_row _ _ _ _ _ _ r1]; rfl
    clear c0 c1 c2 h3 r1 H2 RD
    go_wp2_with fail
    go_ret
    refine ⟨0, _, true, rfl, ?_, T3.out.mark HDU.out HNE.out (.bool true), HNE.out⟩
    rw [AN.out]
    exact ⟨rfl, rfl⟩
  | some q =>
    obtain ⟨v, n⟩ := q
    have hv : v ≤ cm := (HB.out v n rfl).1
    have hv2 : v ≤ 281474976710654 := Nat.le_trans hv hmost
    unfold rdV at RD
    go_region_held3 (fun w' => w'.cell? ⟨sz, 0, none⟩ = some (.int .u8 kd) ∧ w'.cell? ⟨sz, 1, none⟩ = some (.int .u64 kk) ∧ w'.cell? ⟨qb, 0, none⟩ = some (.pointer (some ⟨rb, 0, none⟩)))
      (first | exact ts_mk H2.out | exact ts_mk H2.out.drew | exact ts_mk (by assumption) | exact ts_mk (RE.drew (by assumption)))
      (first | (go_at_call 39; refine (RD.out _ _ (by first | exact H2.out.drew | exact H2.out)).mono ?_; rintro e w1 ⟨rfl, h3⟩))
    have T3 := Lib.hid (h3.sub (ks' := (qb, .cells #[.pointer (some ⟨rb, 0, none⟩), .bool bad] 101 (0, 0)) :: ks) (fun p hp => List.mem_cons_of_mem _ hp))
    have r1 := T3.out.row (List.mem_cons_self ..)
    have qf : ∀ j, w1.frozen? ⟨qb, j, none⟩ = false := fun j => frozen_of_row w1 _ j _ _ r1
    have q1 : w1.cell? ⟨qb, 1, none⟩ = some (.bool bad) := by rw [cell_of_row _ _ _ _ _ _ r1]; rfl
    clear c0 c1 c2 h3 r1 H2 RD
    by_cases hvm : v ≤ most
    · have AN : Hid (O = some (v, a + n)) := Lib.hid (by rw [TE.out, Option.bind_some, if_pos hvm])
      have i1 : decide ((most : Int) < (v : Int)) = false := decide_eq_false (by omega)
      have i1n : decide (most < v) = false := decide_eq_false (by omega)
      clear hv hmost
      go_wp2_with fail
      go_ret
      refine ⟨v, _, bad, rfl, ?_, T3.out, HNE.out⟩
      rw [AN.out]
      exact ⟨rfl, rfl, rfl⟩
    · have AN : Hid (O = none) := Lib.hid (by rw [TE.out, Option.bind_some, if_neg hvm])
      have i1 : decide ((most : Int) < (v : Int)) = true := decide_eq_true (by omega)
      have i1n : decide (most < v) = true := decide_eq_true (by omega)
      clear hv hmost
      go_wp2_with fail
      go_ret
      refine ⟨0, _, true, rfl, ?_, T3.out.mark HDU.out HNE.out (.bool true), HNE.out⟩
      rw [AN.out]
      exact ⟨rfl, rfl⟩
end Go.Proofs.YtflnpcgnenhogaaDoor.ls
namespace Go.Proofs.YtflnpcgnenhogaaDoor.ls
open Go.RowKit Go.Proofs.YtflnpcgnenhogaaDoor.own Go.Proofs.YtflnpcgnenhogaaDoor.bit

def FS (w : World) (wr : Option (Nat × Bits)) (rd : Option (Nat × ByteArray × Nat)) (ks : List (Nat × Obj)) (W : World) : Prop :=
  ∃ x, Fr (fun _ => 100) x (fun c => c < 50) w W ∧ (∀ q, wr = some q → WrC x 0 W q.1 q.2) ∧ (∀ q, rd = some q → RdC x 5 W q.1 q.2.1 q.2.2) ∧ ∀ p ∈ ks, x p.1 = 4 ∧ W.heap[p.1]? = some p.2
section
variable {w W : World} {wr : Option (Nat × Bits)} {rd : Option (Nat × ByteArray × Nat)} {ks : List (Nat × Obj)}
theorem FS.below (h : FS w wr rd ks W) : Below w.heap.size w W := by
  obtain ⟨x, hf, _⟩ := h
  exact fr_below hf
theorem FS.row (h : FS w wr rd ks W) {b : Nat} {o : Obj} (hm : (b, o) ∈ ks) : W.heap[b]? = some o := by
  obtain ⟨x, _, _, _, hk⟩ := h
  exact (hk _ hm).2
theorem FS.start (w : World) : FS w none none [] w := ⟨_, Fr.refl _ _ _, fun q h => (by cases h), fun q h => (by cases h), fun p hp => (by cases hp)⟩
theorem rdc_frame {x x' : Nat → Nat} {C : Nat → Prop} {d : Nat} {W W' : World} {rb a : Nat} {s : ByteArray} (h : RdC x d W rb s a) (f : Fr x x' C W W') (hC : ¬ C d) : RdC x' d W' rb s a := by
  obtain ⟨h1, h2, h3⟩ := h
  exact ⟨(f.old _ (lt_of_block h1) (by rw [h2]; exact hC)).trans h1, (f.col _ (lt_of_block h1)).trans h2, h3⟩
theorem rows_frame {x x' : Nat → Nat} {C : Nat → Prop} {W W' : World} (h : ∀ p ∈ ks, x p.1 = 4 ∧ W.heap[p.1]? = some p.2) (f : Fr x x' C W W') (hC : ¬ C 4) : ∀ p ∈ ks, x' p.1 = 4 ∧ W'.heap[p.1]? = some p.2 := fun p hp => by
  obtain ⟨h1, h2⟩ := h p hp
  exact ⟨(f.col _ (lt_of_block h2)).trans h1, (f.old _ (lt_of_block h2) (by rw [h1]; exact hC)).trans h2⟩
theorem FS.next (h : FS w wr rd ks W) {W' : World} (k : Below W.heap.size W W') : FS w wr rd ks W' := by
  obtain ⟨x, hf, hw, hr, hk⟩ := h
  have f2 : Fr x (paint x W.heap.size 6) (fun e => e = 6) W W' := Fr.of_below k rfl
  exact ⟨_, hf.trans (f2.mono (fun c hc => by show c < 50; omega)), fun q e => (hw q e).frame f2 (by decide), fun q e => rdc_frame (hr q e) f2 (by decide), rows_frame hk f2 (by decide)⟩
theorem FS.add (h : FS w wr rd ks W) (row : Array Value) (T : TypeId) : FS w wr rd ((W.heap.size, .cells row T (0, 0)) :: ks) (W.alloc (.cells row T)) := by
  obtain ⟨x, hf, hw, hr, hk⟩ := h
  have k : Below W.heap.size W (W.alloc (.cells row T)) := (Below.refl _ _).alloc (Nat.le_refl _) _
  have f2 : Fr x (paint x W.heap.size 4) (fun e => e = 4) W (W.alloc (.cells row T)) := Fr.of_below k rfl
  refine ⟨_, hf.trans (f2.mono (fun c hc => by show c < 50; omega)), fun q e => (hw q e).frame f2 (by decide), fun q e => rdc_frame (hr q e) f2 (by decide), fun p hp => ?_⟩
  rcases List.mem_cons.1 hp with rfl | hp
  · exact ⟨paint_new (Nat.le_refl _), heap_alloc_new W _⟩
  · obtain ⟨h1, h2⟩ := hk p hp
    exact ⟨(paint_old (lt_of_block h2)).trans h1, (k.block _ (lt_of_block h2)).trans h2⟩
theorem FS.new (h : FS w none none ks W) :
    Calls Tryd.prog 7 #[] W fun e w' => ∃ wb : Nat, e = .returned (.pointer (some ⟨wb, 0, none⟩)) ∧ FS w (some (wb, [])) none ks w' := by
  obtain ⟨x, hf, -, -, hk⟩ := h
  refine (new_any x 0 W).mono ?_
  rintro e w' ⟨wb, x', rfl, f2, hw, _⟩
  exact ⟨wb, rfl, x', hf.trans (f2.mono (fun c hc => by show c < 50; omega)), fun q e => by cases e; exact hw, fun q e => (by cases e), rows_frame hk f2 (by decide)⟩
theorem FS.enc {wb : Nat} (h : FS w (some (wb, [])) none ks W) (hG : GL w) (p : Pr) (x : Nat) (a : Option Addr) (succ : List Nat) (cap : Nat) (b : Option Addr) (ref : List Nat) (capb r : Nat) (hc : succ.length ≤ cap) (hcb : ref.length ≤ capb) (hm : MayN x succ ref r p) (hA : LV w a succ) (hB : LV w b ref) :
    Calls Tryd.prog 11 #[.pointer (some ⟨wb, 0, none⟩), .int .i64 (x : Int), .slice a succ.length cap, .slice b ref.length capb, .int .i64 (r : Int), parV (p.win : Int) (p.itv : Int) (p.zet : Int)] W fun e w' =>
      e = .returned (.int .i64 0) ∧ FS w (some (wb, lay x succ ref r p)) none ks w' := by
  have kb := h.below
  obtain ⟨y, hf, hw, -, hk⟩ := h
  have hl := lay_len hm
  refine (lenc_yes y 0 1 2 (by decide) (by decide) (by decide) p x W (hG.below kb) wb [] a succ cap b ref capb r hc hcb hm (hA.below kb) (hB.below kb) (by simp only [List.length_nil]; omega) (hw _ rfl)).mono ?_
  rintro e w' ⟨rfl, x', f2, hw2⟩
  exact ⟨rfl, x', hf.trans (f2.mono (fun c hc => by show c < 50; omega)), fun q e => by cases e; exact hw2, fun q e => (by cases e), rows_frame hk f2 (by decide)⟩
theorem FS.text {wb : Nat} {l : Bits} (h : FS w (some (wb, l)) rd ks W) :
    Calls Tryd.prog 13 #[.pointer (some ⟨wb, 0, none⟩)] W fun e w' => e = .returned (.tuple #[.string (txt (packN l)), .int .i64 0]) ∧ W = w' := by
  obtain ⟨x, _, hw, _⟩ := h
  exact text_any x 0 W wb l (hw _ rfl)
theorem FS.len {wb : Nat} {l : Bits} (h : FS w (some (wb, l)) rd ks W) :
    Calls Tryd.prog 19 #[.pointer (some ⟨wb, 0, none⟩)] W fun e w' => e = .returned (.int .i64 (l.length : Int)) ∧ W = w' := by
  obtain ⟨x, _, hw, _⟩ := h
  exact len_any x 0 W wb l (hw _ rfl)
theorem FS.open (h : FS w wr none ks W) (s : ByteArray) (hs : s.size ≤ 1152921504606846975) :
    Calls Tryd.prog 20 #[.string s] W fun e w' => ∃ rb : Nat, e = .returned (.pointer (some ⟨rb, 0, none⟩)) ∧ FS w wr (some (rb, s, 0)) ks w' := by
  obtain ⟨x, hf, hw, -, hk⟩ := h
  refine (ropen_any x 5 s hs W).mono ?_
  rintro e w' ⟨rb, x', rfl, f2, hr, _⟩
  exact ⟨rb, rfl, x', hf.trans (f2.mono (fun c hc => by show c < 50; omega)), fun q e => (hw q e).frame f2 (by decide), fun q e => by cases e; exact hr, rows_frame hk f2 (by decide)⟩
theorem FS.at_ {rb a : Nat} {s : ByteArray} (h : FS w wr (some (rb, s, a)) ks W) :
    Calls Tryd.prog 24 #[.pointer (some ⟨rb, 0, none⟩)] W fun e w' => e = .returned (.int .i64 (a : Int)) ∧ W = w' := by
  obtain ⟨x, _, _, hr, _⟩ := h
  exact At_any x 5 W rb s a (hr _ rfl)
theorem FS.head {rb a : Nat} {s : ByteArray} (h : FS w wr (some (rb, s, a)) ks W) (hG : GL w) (p : Pr) (hp : p.ok) :
    Calls Tryd.prog 21 #[.pointer (some ⟨rb, 0, none⟩), parV (p.win : Int) (p.itv : Int) (p.zet : Int)] W fun e w' =>
      e = .returned (hrV (hread p.win (unpack (nats s)) a)) ∧ FS w wr (some (rb, s, hrA a (hread p.win (unpack (nats s)) a))) ks w' := by
  have kb := h.below
  obtain ⟨x, hf, hw, hr, hk⟩ := h
  have e0 : x 0 = 100 := hf.col 0 (World.block_lt_of_cell? _ _ hG.g0)
  have e1 : x 1 = 100 := hf.col 1 (World.block_lt_of_cell? _ _ hG.u0)
  refine (head_any x 5 1 2 (by decide) (by decide) (by decide) p hp W (hG.below kb) (by rw [e0, e1]; decide) rb s a (hr _ rfl)).mono ?_
  rintro e w' ⟨rfl, x', f2, hr2⟩
  exact ⟨rfl, x', hf.trans (f2.mono (fun c hc => by show c < 50; omega)), fun q e => (hw q e).frame f2 (by decide), fun q e => by cases e; exact hr2, rows_frame hk f2 (by decide)⟩
end
/-- a row of the law's own is a list that is only read -/
theorem lv_own {w : World} {base : Nat} {v : Value} {l : List Nat} (hl : l.length ≤ 4611686018427387903) (hb : ∀ u ∈ l, u < 4294967296) (h : w.ownsRow base 60 1 v l.length (u32V l)) : ∃ a cap, v = .slice a l.length cap ∧ l.length ≤ cap ∧ LV w a l := by
  rcases h.2 with ⟨hv, h0⟩ | ⟨g, cap, cur, hv, hbb, hg, hn, hc, hcs, _⟩
  · exact ⟨none, 0, by rw [hv, h0], by omega, hl, fun k hk => by omega⟩
  · subst hv
    refine ⟨_, _, rfl, hn, hl, fun k hk => ⟨g, 0, rfl, lt_of_block hg, ?_, hb _ (List.getElem_mem hk)⟩⟩
    rw [Nat.zero_add, h.cellAt k (by omega)]
    simp [u32V, hk]
end Go.Proofs.YtflnpcgnenhogaaDoor.ls
