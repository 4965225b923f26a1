/- list: what numbers holds on its way. -/
import Derived.Test.YtflnpcgnenhogaaDoorLsQ
namespace Go.Proofs.YtflnpcgnenhogaaDoor.ls
open Go.RowKit Go.Proofs.YtflnpcgnenhogaaDoor.own Go.Proofs.YtflnpcgnenhogaaDoor.bit

/-- the package's two codes lie where they were laid -/
structure GL (w : World) : Prop where
  g0 : w.cell? ⟨0, 0, none⟩ = some (.int .u8 1)
  g1 : w.cell? ⟨0, 1, none⟩ = some (.int .u64 0)
  u0 : w.cell? ⟨1, 0, none⟩ = some (.int .u8 0)
  u1 : w.cell? ⟨1, 1, none⟩ = some (.int .u64 0)
theorem GL.below {w W : World} (h : GL w) (k : Below w.heap.size w W) : GL W :=
  ⟨(k.cell (World.block_lt_of_cell? _ _ h.g0)).trans h.g0, (k.cell (World.block_lt_of_cell? _ _ h.g1)).trans h.g1, (k.cell (World.block_lt_of_cell? _ _ h.u0)).trans h.u0, (k.cell (World.block_lt_of_cell? _ _ h.u1)).trans h.u1⟩

/-- the numbers so far, and rows beside them, made since w -/
def NS0 (w : World) (lb : Nat) (L : List (Cd × Nat)) (ks : List (Nat × Obj)) (W : World) : Prop :=
  ∃ x, Fr (fun _ => 100) x (fun c => c < 50) w W ∧ VR x 1 87 82 3 W lb L.length (nmV L) ∧ ∀ p ∈ ks, x p.1 = 49 ∧ W.heap[p.1]? = some p.2
/-- and the runs, what is left -/
def NS (w : World) (lb fb rb : Nat) (L : List (Cd × Nat)) (s : List Nat × (List Nat × Nat)) (ks : List (Nat × Obj)) (W : World) : Prop :=
  ∃ x, Fr (fun _ => 100) x (fun c => c < 50) w W ∧ VR x 1 87 82 3 W lb L.length (nmV L) ∧ MSt x 2 3 W fb rb s ∧ ∀ p ∈ ks, x p.1 = 49 ∧ W.heap[p.1]? = some p.2
theorem fr_below {x : Nat → Nat} {w W : World} (hf : Fr (fun _ => 100) x (fun c => c < 50) w W) : Below w.heap.size w W :=
  ⟨hf.os, hf.tape, hf.output, hf.size, fun b hb => hf.old b hb (by show ¬ (100 : Nat) < 50; decide)⟩
theorem NS.ns0 {w W : World} {lb fb rb : Nat} {L : List (Cd × Nat)} {s : List Nat × (List Nat × Nat)} {ks : List (Nat × Obj)} (h : NS w lb fb rb L s ks W) : NS0 w lb L ks W := by
  obtain ⟨x, h1, h2, _, h4⟩ := h
  exact ⟨x, h1, h2, h4⟩
theorem NS0.below {w W : World} {lb : Nat} {L : List (Cd × Nat)} {ks : List (Nat × Obj)} (h : NS0 w lb L ks W) : Below w.heap.size w W := by
  obtain ⟨x, hf, _⟩ := h
  exact fr_below hf
theorem NS0.row {w W : World} {lb : Nat} {L : List (Cd × Nat)} {ks : List (Nat × Obj)} (h : NS0 w lb L ks W) {b : Nat} {o : Obj} (hm : (b, o) ∈ ks) : W.heap[b]? = some o := by
  obtain ⟨x, _, _, hk⟩ := h
  exact (hk _ hm).2
/-- the answer: the row of numbers -/
def NumsP (w : World) (L : List (Cd × Nat)) (e : Ending) (w' : World) : Prop := ∃ v, e = .returned v ∧ w'.ownsRow w.heap.size 87 3 v L.length (nmV L) ∧ Below w.heap.size w w'
theorem NS0.done {w W : World} {lb : Nat} {L : List (Cd × Nat)} {ks : List (Nat × Obj)} (h : NS0 w lb L ks W) : ∃ v, W.cell? ⟨lb, 0, none⟩ = some v ∧ NumsP w L (.returned v) W := by
  obtain ⟨x, hf, ⟨v, h0, hx, ho, hg⟩, _⟩ := h
  refine ⟨v, by rw [cell_of_row _ _ _ _ _ _ h0]; rfl, v, rfl, own_rebase ho (fun g e => ?_), fr_below hf⟩
  rcases Nat.lt_or_ge g w.heap.size with h1 | h1
  · have := hf.col g h1
    have h2 := (hg g e).1
    omega
  · exact h1
theorem NS0.put {w W : World} {lb : Nat} {L : List (Cd × Nat)} {ks : List (Nat × Obj)} (h : NS0 w lb L ks W) (k : Cd) (v : Nat) (hv : v < 9223372036854775808) (hl : L.length ≤ 1000000000) :
    Calls Tryd.prog 54 #[cdV k, .int .i64 (v : Int), .pointer (some ⟨lb, 0, none⟩)] W fun e w' => e = .returned (.tuple #[]) ∧ NS0 w lb (L ++ [(k, v)]) ks w' := by
  obtain ⟨x, hf, hv1, hk⟩ := h
  refine (put_any x 1 W lb L k v hv hl hv1).mono ?_
  rintro e w' ⟨rfl, x', f2, h2⟩
  refine ⟨rfl, x', hf.trans (f2.mono (fun c hc => by show c < 50; omega)), by rw [List.length_append]; exact h2, fun p hp => ?_⟩
  obtain ⟨h3, h4⟩ := hk p hp
  exact ⟨(f2.col _ (lt_of_block h4)).trans h3, (f2.old _ (lt_of_block h4) (by show ¬ x p.1 = 1; rw [h3]; decide)).trans h4⟩
theorem NS.put {w W : World} {lb fb rb : Nat} {L : List (Cd × Nat)} {s : List Nat × (List Nat × Nat)} {ks : List (Nat × Obj)} (h : NS w lb fb rb L s ks W) (k : Cd) (v : Nat) (hv : v < 9223372036854775808) (hl : L.length ≤ 1000000000) :
    Calls Tryd.prog 54 #[cdV k, .int .i64 (v : Int), .pointer (some ⟨lb, 0, none⟩)] W fun e w' => e = .returned (.tuple #[]) ∧ NS w lb fb rb (L ++ [(k, v)]) s ks w' ∧ w'.cell? ⟨rb, 0, none⟩ = W.cell? ⟨rb, 0, none⟩ := by
  obtain ⟨x, hf, hv1, ⟨hm1, hm2⟩, hk⟩ := h
  refine (put_any x 1 W lb L k v hv hl hv1).mono ?_
  rintro e w' ⟨rfl, x', f2, h2⟩
  have hrow : w'.cell? ⟨rb, 0, none⟩ = W.cell? ⟨rb, 0, none⟩ := by
    obtain ⟨v0, h0, hx0, _⟩ := hm2
    exact World.cell?_of_block (f2.old rb (lt_of_block h0) (by show ¬ x rb = 1; rw [hx0]; decide))
  refine ⟨rfl, ⟨x', hf.trans (f2.mono (fun c hc => by show c < 50; omega)), by rw [List.length_append]; exact h2, ⟨hm1.frame f2 (by decide), hm2.frame f2 (by decide)⟩, fun p hp => ?_⟩, hrow⟩
  obtain ⟨h3, h4⟩ := hk p hp
  exact ⟨(f2.col _ (lt_of_block h4)).trans h3, (f2.old _ (lt_of_block h4) (by show ¬ x p.1 = 1; rw [h3]; decide)).trans h4⟩
/-- a call that only makes new memory -/
theorem NS.next {w W W' : World} {lb fb rb : Nat} {L : List (Cd × Nat)} {s : List Nat × (List Nat × Nat)} {ks : List (Nat × Obj)} (h : NS w lb fb rb L s ks W) (k : Below W.heap.size W W') : NS w lb fb rb L s ks W' := by
  obtain ⟨x, hf, hv1, ⟨hm1, hm2⟩, hk⟩ := h
  have f2 : Fr x (paint x W.heap.size 49) (fun e => e = 49) W W' := Fr.of_below k rfl
  refine ⟨_, hf.trans (f2.mono (fun c hc => by show c < 50; omega)), hv1.frame f2 (by decide), ⟨hm1.frame f2 (by decide), hm2.frame f2 (by decide)⟩, fun p hp => ?_⟩
  obtain ⟨h3, h4⟩ := hk p hp
  exact ⟨(f2.col _ (lt_of_block h4)).trans h3, (k.block _ (lt_of_block h4)).trans h4⟩
/-- rows that are new -/
theorem NS.more {w W W' : World} {lb fb rb : Nat} {L : List (Cd × Nat)} {s : List Nat × (List Nat × Nat)} {ks : List (Nat × Obj)} (h : NS w lb fb rb L s ks W) (k : Below W.heap.size W W') (js : List (Nat × Obj)) (hj : ∀ p ∈ js, W.heap.size ≤ p.1 ∧ W'.heap[p.1]? = some p.2) : NS w lb fb rb L s (js ++ ks) W' := by
  obtain ⟨x, hf, hv1, ⟨hm1, hm2⟩, hk⟩ := h
  have f2 : Fr x (paint x W.heap.size 49) (fun e => e = 49) W W' := Fr.of_below k rfl
  refine ⟨_, hf.trans (f2.mono (fun c hc => by show c < 50; omega)), hv1.frame f2 (by decide), ⟨hm1.frame f2 (by decide), hm2.frame f2 (by decide)⟩, fun p hp => ?_⟩
  rcases List.mem_append.1 hp with hp | hp
  · obtain ⟨h1, h2⟩ := hj p hp
    exact ⟨paint_new h1, h2⟩
  · obtain ⟨h3, h4⟩ := hk p hp
    exact ⟨(paint_old (lt_of_block h4)).trans h3, (k.block _ (lt_of_block h4)).trans h4⟩
theorem NS.fewer {w W : World} {lb fb rb : Nat} {L : List (Cd × Nat)} {s : List Nat × (List Nat × Nat)} {ks js : List (Nat × Obj)} (h : NS w lb fb rb L s ks W) (hj : ∀ p ∈ js, p ∈ ks) : NS w lb fb rb L s js W := by
  obtain ⟨x, h1, h2, h3, hk⟩ := h
  exact ⟨x, h1, h2, h3, fun p hp => hk p (hj p hp)⟩
def endV : Option Nat → Value
  | none => .int .i64 (-1)
  | some e => .int .i64 (e : Int)
/-- the beginning: the first number -/
theorem NS0.start {w W : World} {pv : Array Value} {n : Nat} (hW : ((w.alloc (.cells pv 38)).alloc (.cells #[.int .u8 1, .int .u64 0, .int .u64 (n : Int)] 87)).alloc (.cells #[.slice (some ⟨w.heap.size + 1, 0, none⟩) 1 1] 82) = W) :
    NS0 w (w.heap.size + 1 + 1) [(.gam, n)] [(w.heap.size, .cells pv 38 (0, 0))] W := by
  obtain ⟨r1, r2, r3, kb⟩ := rows3 hW
  refine ⟨fun b => if b < w.heap.size then 100 else if b = w.heap.size then 49 else 1, ⟨kb.os, kb.tape, kb.output, kb.size, fun b hb => if_pos hb, fun b h1 _ => ?_, fun b hb _ => kb.block b hb⟩, ⟨_, r3, ?_, ⟨rfl, .inr ⟨w.heap.size + 1, 1, _, rfl, Nat.zero_le _, r2, Nat.le_refl _, by decide, rfl, rfl⟩⟩, fun g hg => ?_⟩, fun p hp => ?_⟩
  · show (if b < w.heap.size then 100 else if b = w.heap.size then 49 else 1) < 50
    rw [if_neg (by omega)]
    split <;> decide
  · show (if w.heap.size + 1 + 1 < w.heap.size then 100 else if w.heap.size + 1 + 1 = w.heap.size then 49 else 1) = 1
    rw [if_neg (by omega), if_neg (by omega)]
  · have : g = w.heap.size + 1 := by
      have h2 : some (w.heap.size + 1) = some g := hg
      injection h2 with h2; exact h2.symm
    subst this
    refine ⟨?_, by omega⟩
    show (if w.heap.size + 1 < w.heap.size then 100 else if w.heap.size + 1 = w.heap.size then 49 else 1) = 1
    rw [if_neg (by omega), if_neg (by omega)]
  · rcases List.mem_cons.1 hp with rfl | hp
    · refine ⟨?_, r1⟩
      show (if w.heap.size < w.heap.size then 100 else if w.heap.size = w.heap.size then 49 else 1) = 49
      rw [if_neg (by omega), if_pos rfl]
    · cases hp
/-- the runs and what is left begin -/
theorem NS0.more {w W W' : World} {lb : Nat} {L : List (Cd × Nat)} {ks : List (Nat × Obj)} (h : NS0 w lb L ks W) (hW : ((W.alloc (.cells #[.int .i64 0] 3)).alloc (.cells #[.slice (some ⟨W.heap.size, 0, none⟩) 1 1] 50)).alloc (.cells #[.slice none 0 0] 29) = W') :
    NS w lb (W.heap.size + 1 + 1) (W.heap.size + 1) L ([], ([], 0)) ks W' := by
  obtain ⟨x, hf, hv1, hk⟩ := h
  obtain ⟨r1, r2, r3, kb⟩ := rows3 hW
  have f2 : Fr x (fun b => if b < W.heap.size then x b else if b = W.heap.size + 1 + 1 then 2 else 3) (fun e => e = 2 ∨ e = 3) W W' := ⟨kb.os, kb.tape, kb.output, kb.size, fun b hb => if_pos hb, fun b h1 _ => by
    show (if b < W.heap.size then x b else if b = W.heap.size + 1 + 1 then 2 else 3) = 2 ∨ (if b < W.heap.size then x b else if b = W.heap.size + 1 + 1 then 2 else 3) = 3
    rw [if_neg (by omega)]
    split
    · exact .inl rfl
    · exact .inr rfl, fun b hb _ => kb.block b hb⟩
  refine ⟨_, hf.trans (f2.mono (fun c hc => by show c < 50; omega)), hv1.frame f2 (by omega), ⟨⟨_, r3, ?_, World.ownsRow_nil _ _ _ _, fun g hg => by cases hg⟩, ⟨_, r2, ?_, ⟨rfl, .inr ⟨W.heap.size, 1, _, rfl, Nat.zero_le _, r1, Nat.le_refl _, by decide, rfl, rfl⟩⟩, fun g hg => ?_⟩⟩, fun p hp => ?_⟩
  · show (if W.heap.size + 1 + 1 < W.heap.size then _ else if W.heap.size + 1 + 1 = W.heap.size + 1 + 1 then 2 else 3) = 2
    rw [if_neg (by omega), if_pos rfl]
  · show (if W.heap.size + 1 < W.heap.size then _ else if W.heap.size + 1 = W.heap.size + 1 + 1 then 2 else 3) = 3
    rw [if_neg (by omega), if_neg (by omega)]
  · have : g = W.heap.size := by
      have h2 : some (W.heap.size) = some g := hg
      injection h2 with h2; exact h2.symm
    subst this
    refine ⟨?_, by omega⟩
    show (if W.heap.size < W.heap.size then _ else if W.heap.size = W.heap.size + 1 + 1 then 2 else 3) = 3
    rw [if_neg (by omega), if_neg (by omega)]
  · obtain ⟨h3, h4⟩ := hk p hp
    exact ⟨(f2.col _ (lt_of_block h4)).trans h3, (kb.block _ (lt_of_block h4)).trans h4⟩
/-- the two lists are met -/
theorem NS.each {w W : World} {lb fb rb : Nat} {L : List (Cd × Nat)} {ks : List (Nat × Obj)} (h : NS w lb fb rb L ([], ([], 0)) ks W) (a : Option Addr) (l : List Nat) (cap : Nat) (b : Option Addr) (m : List Nat) (capb : Nat) (hc : l.length ≤ cap) (hcb : m.length ≤ capb) (hl : l.length + m.length ≤ 131072) (hA : LV w a l) (hB : LV w b m) :
    Calls Tryd.prog 55 #[.slice a l.length cap, .slice b m.length capb, .func (.func 56) #[] #[.pointer (some ⟨fb, 0, none⟩), .pointer (some ⟨rb, 0, none⟩)]] W fun e w' =>
      e = .returned (.tuple #[]) ∧ NS w lb fb rb L (eachF l m ([], ([], 0))) ks w' := by
  obtain ⟨x, hf, hv1, hM, hk⟩ := h
  have lvx : ∀ (a : Option Addr) (l : List Nat), LV w a l → LVx x (fun e => e = 2 ∨ e = 3) W a l := fun a l h => ⟨h.1, fun i hi => by
    obtain ⟨g, o, h1, h2, h3, h4⟩ := h.2 i hi
    refine ⟨g, o, h1, Nat.lt_of_lt_of_le h2 hf.size, ((fr_below hf).cell (p := ⟨g, o + i, none⟩) h2).trans h3, h4, ?_⟩
    show ¬ (x g = 2 ∨ x g = 3)
    rw [hf.col g h2]
    decide⟩
  refine (each_any x 2 3 (by decide) W fb rb a l cap b m capb hc hcb hl (lvx a l hA) (lvx b m hB) hM).mono ?_
  rintro e w' ⟨rfl, x', f2, h2⟩
  refine ⟨rfl, x', hf.trans (f2.mono (fun c hc => by show c < 50; omega)), hv1.frame f2 (by decide), h2, fun p hp => ?_⟩
  obtain ⟨h3, h4⟩ := hk p hp
  exact ⟨(f2.col _ (lt_of_block h4)).trans h3, (f2.old _ (lt_of_block h4) (by show ¬ (x p.1 = 2 ∨ x p.1 = 3); rw [h3]; decide)).trans h4⟩
/-- the runs, and what is left, as they lie -/
theorem NS.runs {w W : World} {lb fb rb : Nat} {L : List (Cd × Nat)} {s : List Nat × (List Nat × Nat)} {ks : List (Nat × Obj)} (h : NS w lb fb rb L s ks W) :
    ∃ g cap, W.cell? ⟨rb, 0, none⟩ = some (.slice (some ⟨g, 0, none⟩) (s.2.1.length + 1) cap) ∧ s.2.1.length + 1 ≤ cap ∧ g < W.heap.size ∧ ∀ j (hj : j < s.2.1.length), W.cell? ⟨g, j, none⟩ = some (.int .i64 (s.2.1[j] : Int)) := by
  obtain ⟨x, _, _, ⟨_, ⟨v, h0, _, ho, _⟩⟩, _⟩ := h
  have c0 : W.cell? ⟨rb, 0, none⟩ = some v := by rw [cell_of_row _ _ _ _ _ _ h0]; rfl
  rcases ho.2 with ⟨_, h2⟩ | ⟨g, cap, cur, rfl, _, hcell, hn, _⟩
  · omega
  · refine ⟨g, cap, c0, hn, lt_of_block hcell, fun j hj => ?_⟩
    rw [ho.cellAt j (by omega)]
    unfold intV
    rw [List.getElem?_map, List.getElem?_append_left hj, List.getElem?_eq_getElem hj]
    rfl
theorem NS.left {w W : World} {lb fb rb : Nat} {L : List (Cd × Nat)} {s : List Nat × (List Nat × Nat)} {ks : List (Nat × Obj)} (h : NS w lb fb rb L s ks W) (hs : ∀ v ∈ s.1, v < 4294967296) (hz : s.1.length ≤ 1000000) :
    ∃ a cap, W.cell? ⟨fb, 0, none⟩ = some (.slice a s.1.length cap) ∧ s.1.length ≤ cap ∧ LV W a s.1 := by
  obtain ⟨x, _, _, ⟨⟨v, h0, _, ho, _⟩, _⟩, _⟩ := h
  have c0 : W.cell? ⟨fb, 0, none⟩ = some v := by rw [cell_of_row _ _ _ _ _ _ h0]; rfl
  rcases ho.2 with ⟨rfl, h2⟩ | ⟨g, cap, cur, rfl, _, hcell, hn, _⟩
  · refine ⟨none, 0, by rw [h2]; exact c0, by omega, by omega, fun i hi => by omega⟩
  · refine ⟨_, cap, c0, hn, by omega, fun i hi => ⟨g, 0, rfl, lt_of_block hcell, ?_, hs _ (List.getElem_mem hi)⟩⟩
    rw [Nat.zero_add, ho.cellAt i (by omega)]
    unfold u32V
    rw [List.getElem?_map, List.getElem?_eq_getElem hi]
    rfl
theorem rnm_snoc : ∀ (i : Nat) (I : List Nat) (n : Nat), rnm i (I ++ [n]) = rnm i I ++ [n - min (i + I.length) 1]
  | i, [], n => by simp [rnm]
  | i, m :: I, n => by
    show (m - min i 1) :: rnm (i + 1) (I ++ [n]) = _
    rw [rnm_snoc (i + 1) I n]
    show _ = (m - min i 1) :: rnm (i + 1) I ++ [n - min (i + (I.length + 1)) 1]
    rw [show i + 1 + I.length = i + (I.length + 1) by omega]
    rfl
theorem sum_get : ∀ (l : List Nat) (i : Nat) (h : i < l.length), l[i] ≤ sum l
  | [], i, h => by simp at h
  | n :: l, 0, _ => by show n ≤ n + sum l; omega
  | n :: l, i + 1, h => by
    have := sum_get l i (by simpa using h)
    show l[i]'(by simpa using h) ≤ n + sum l
    omega
theorem rnm_length : ∀ (i : Nat) (I : List Nat), (rnm i I).length = I.length
  | _, [] => rfl
  | i, _ :: I => by rw [rnm, List.length_cons, rnm_length (i + 1) I, List.length_cons]
/-- where rows end -/
def lend : Option Nat → List (Nat × Nat) → Option Nat
  | e, [] => e
  | _, (f, n) :: r => lend (some (f + n - 1)) r
theorem lend_snoc : ∀ (e : Option Nat) (l : List (Nat × Nat)) (f n : Nat), lend e (l ++ [(f, n)]) = some (f + n - 1)
  | _, [], _, _ => rfl
  | _, (a, b) :: l, f, n => lend_snoc (some (a + b - 1)) l f n
theorem lnm_cons (x itv : Nat) (e : Option Nat) (f n : Nat) (r : List (Nat × Nat)) : lnm x itv e ((f, n) :: r) = (match e with | none => zig ((f : Int) - x) | some e => f - e - 2) :: (n - itv) :: lnm x itv (some (f + n - 1)) r := by cases e <;> rfl
def frstN (x : Nat) (o : Option Nat) (f : Nat) : Nat :=
  match o with
  | none => zig ((f : Int) - x)
  | some e => f - e - 2
def resN (x : Nat) (o : Option Nat) (v : Nat) : Nat :=
  match o with
  | none => zig ((v : Int) - x)
  | some u => v - u - 1
theorem lnm_snoc (x itv : Nat) : ∀ (e : Option Nat) (l : List (Nat × Nat)) (f n : Nat), lnm x itv e (l ++ [(f, n)]) = lnm x itv e l ++ [frstN x (lend e l) f, n - itv]
  | e, [], f, n => by
    rw [List.nil_append, lnm_cons]
    have h0 : ∀ e : Option Nat, lnm x itv e [] = [] := fun e => by cases e <;> rfl
    rw [h0, h0]
    rfl
  | e, (a, b) :: l, f, n => by
    rw [List.cons_append, lnm_cons, lnm_cons, lnm_snoc x itv (some (a + b - 1)) l f n]
    rfl
theorem lnm_length (x itv : Nat) : ∀ (e : Option Nat) (l : List (Nat × Nat)), (lnm x itv e l).length = 2 * l.length
  | none, [] => rfl
  | some _, [] => rfl
  | e, (a, b) :: l => by
    rw [lnm_cons, List.length_cons, List.length_cons, lnm_length x itv (some (a + b - 1)) l, List.length_cons]
    omega
theorem Apart.get {itv : Nat} : ∀ {e : Option Nat} {l : List (Nat × Nat)} (_ : Apart itv e l) (i : Nat) (hi : i < l.length), itv ≤ l[i].2 ∧ 0 < l[i].2 ∧ l[i].1 + l[i].2 ≤ 65536 ∧ ∀ e', lend e (l.take i) = some e' → e' + 2 ≤ l[i].1
  | none, (f, n) :: r, h, 0, _ => ⟨h.1, h.2.1, h.2.2.1, fun e' he => by cases he⟩
  | some e, (f, n) :: r, h, 0, _ => ⟨h.2.1, h.2.2.1, h.2.2.2.1, fun e' he => by cases he; exact h.1⟩
  | none, (f, n) :: r, h, i + 1, hi => Apart.get (l := r) h.2.2.2 i (by simpa using hi)
  | some e, (f, n) :: r, h, i + 1, hi => Apart.get (l := r) h.2.2.2.2 i (by simpa using hi)
theorem lend_none {l : List (Nat × Nat)} {i : Nat} (hi : i ≤ l.length) (h : 0 < i) : ∃ f n, (f, n) ∈ l ∧ lend none (l.take i) = some (f + n - 1) := by
  obtain ⟨j, rfl⟩ : ∃ j, i = j + 1 := ⟨i - 1, by omega⟩
  have hj : j < l.length := by omega
  refine ⟨l[j].1, l[j].2, List.getElem_mem hj, ?_⟩
  rw [List.take_succ_eq_append_getElem hj]
  exact lend_snoc _ _ _ _
theorem znm_snoc (x : Nat) : ∀ (e : Option Nat) (l : List Nat) (v : Nat), znm x e (l ++ [v]) = znm x e l ++ [resN x (match l.getLast? with | some u => some u | none => e) v]
  | none, [], v => rfl
  | some e, [], v => rfl
  | none, a :: l, v => by
    show zig ((a : Int) - x) :: znm x (some a) (l ++ [v]) = zig ((a : Int) - x) :: znm x (some a) l ++ _
    rw [znm_snoc x (some a) l v, List.getLast?_cons]
    cases l.getLast? <;> rfl
  | some e, a :: l, v => by
    show (a - e - 1) :: znm x (some a) (l ++ [v]) = (a - e - 1) :: znm x (some a) l ++ _
    rw [znm_snoc x (some a) l v, List.getLast?_cons]
    cases l.getLast? <;> rfl
theorem znm_length (x : Nat) : ∀ (e : Option Nat) (l : List Nat), (znm x e l).length = l.length
  | none, [] => rfl
  | some _, [] => rfl
  | none, a :: l => by show (znm x (some a) l).length + 1 = _; rw [znm_length x (some a) l]; rfl
  | some e, a :: l => by show (znm x (some a) l).length + 1 = _; rw [znm_length x (some a) l]; rfl

theorem apart_len {itv : Nat} : ∀ (e : Option Nat) (l : List (Nat × Nat)), Apart itv e l → l.length ≤ sum (l.map (·.2))
  | _, [], _ => Nat.zero_le _
  | none, (f, n) :: r, h => by
    have := apart_len _ r h.2.2.2
    have h2 := h.2.1
    show r.length + 1 ≤ n + sum (r.map (·.2))
    omega
  | some e, (f, n) :: r, h => by
    have := apart_len _ r h.2.2.2.2
    have h2 := h.2.2.1
    show r.length + 1 ≤ n + sum (r.map (·.2))
    omega
theorem i64_diff (v x : Nat) (h1 : v < 65536) (h2 : x < 65536) : IntKind.i64.wrap ((v : Int) - (x : Int)) = (v : Int) - (x : Int) := IntWalk.i64_in _ (by omega)
/-- pairs of numbers that are only read -/
def PV (W : World) (a : Option Addr) (L : List (Nat × Nat)) : Prop := ∀ i (h : i < L.length), ∃ g, a = some ⟨g, 0, none⟩ ∧ W.cell? ⟨g, i * 2, none⟩ = some (.int .i64 (L[i].1 : Int)) ∧ W.cell? ⟨g, i * 2 + 1, none⟩ = some (.int .i64 (L[i].2 : Int))
theorem prV_get : ∀ (L : List (Nat × Nat)) (i : Nat) (h : i < L.length), (prV L)[i * 2]? = some (.int .i64 (L[i].1 : Int)) ∧ (prV L)[i * 2 + 1]? = some (.int .i64 (L[i].2 : Int))
  | q :: L, 0, _ => ⟨rfl, rfl⟩
  | q :: L, i + 1, h => by
    have := prV_get L i (by simpa using h)
    have e : prV (q :: L) = .int .i64 (q.1 : Int) :: .int .i64 (q.2 : Int) :: prV L := rfl
    rw [e, show (i + 1) * 2 = i * 2 + 1 + 1 by omega, List.getElem?_cons_succ, List.getElem?_cons_succ, List.getElem?_cons_succ, List.getElem?_cons_succ]
    exact this
/-- the rows that rows made stand from now on -/
theorem NS.rows {w W W' : World} {lb fb rb : Nat} {L : List (Cd × Nat)} {s : List Nat × (List Nat × Nat)} {ks : List (Nat × Obj)} (h : NS w lb fb rb L s ks W) {P : List (Nat × Nat)} {R : List Nat} {v1 v2 : Value} (k : RW2 W P v1 R v2 W') (hR : ∀ v ∈ R, v < 4294967296) (hz : R.length ≤ 1000000) :
    ∃ a1 c1 a2 c2, v1 = .slice a1 P.length c1 ∧ v2 = .slice a2 R.length c2 ∧ R.length ≤ c2 ∧ ∃ ks', (∀ p ∈ ks, p ∈ ks') ∧ NS w lb fb rb L s ks' W' ∧ ∀ L' s' W2, NS w lb fb rb L' s' ks' W2 → PV W2 a1 P ∧ LV W2 a2 R := by
  obtain ⟨kb, o1, o2, _⟩ := k
  -- the rows, as they lie
  have key1 : ∃ (a1 : Option Addr) (c1 : Nat) (js : List (Nat × Obj)), v1 = .slice a1 P.length c1 ∧ (∀ p ∈ js, W.heap.size ≤ p.1 ∧ W'.heap[p.1]? = some p.2) ∧ ∀ W2, (∀ p ∈ js, W2.heap[p.1]? = some p.2) → PV W2 a1 P := by
    rcases o1.2 with ⟨rfl, h0⟩ | ⟨g, cap, cur, rfl, hb, hcell, hn, hcm, hcs, htake⟩
    · exact ⟨none, 0, [], by rw [h0], (fun p hp => by cases hp), fun W2 _ i hi => by omega⟩
    · refine ⟨_, cap, [(g, .cells cur 126 (0, 0))], rfl, fun p hp => ?_, fun W2 h2 i hi => ⟨g, rfl, ?_⟩⟩
      · rcases List.mem_cons.1 hp with rfl | hp
        · exact ⟨hb, hcell⟩
        · cases hp
      · have hr := h2 _ (List.mem_cons_self ..)
        have hg := prV_get P i hi
        rw [← htake] at hg
        rw [cell_of_row _ _ _ _ _ _ hr, cell_of_row _ _ _ _ _ _ hr, ← Array.getElem?_toList, ← Array.getElem?_toList]
        rw [List.getElem?_take_of_lt (by omega), List.getElem?_take_of_lt (by omega)] at hg
        exact hg
  have key2 : ∃ (a2 : Option Addr) (c2 : Nat) (js : List (Nat × Obj)), v2 = .slice a2 R.length c2 ∧ R.length ≤ c2 ∧ (∀ p ∈ js, W.heap.size ≤ p.1 ∧ W'.heap[p.1]? = some p.2) ∧ ∀ W2, (∀ p ∈ js, W2.heap[p.1]? = some p.2) → LV W2 a2 R := by
    rcases o2.2 with ⟨rfl, h0⟩ | ⟨g, cap, cur, rfl, hb, hcell, hn, hcm, hcs, htake⟩
    · exact ⟨none, 0, [], by rw [h0], by omega, (fun p hp => by cases hp), fun W2 _ => ⟨by omega, fun i hi => by omega⟩⟩
    · refine ⟨_, cap, [(g, .cells cur 60 (0, 0))], rfl, hn, fun p hp => ?_, fun W2 h2 => ⟨by omega, fun i hi => ?_⟩⟩
      · rcases List.mem_cons.1 hp with rfl | hp
        · exact ⟨hb, hcell⟩
        · cases hp
      · have hr := h2 _ (List.mem_cons_self ..)
        refine ⟨g, 0, rfl, lt_of_block hr, ?_, hR _ (List.getElem_mem hi)⟩
        have hg : (u32V R)[i]? = some (.int .u32 (R[i] : Int)) := by unfold u32V; rw [List.getElem?_map, List.getElem?_eq_getElem hi]; rfl
        rw [← htake, List.getElem?_take_of_lt (by omega)] at hg
        rw [Nat.zero_add, cell_of_row _ _ _ _ _ _ hr, ← Array.getElem?_toList]
        exact hg
  obtain ⟨a1, c1, j1, e1, q1, p1⟩ := key1
  obtain ⟨a2, c2, j2, e2, l2, q2, p2⟩ := key2
  refine ⟨a1, c1, a2, c2, e1, e2, l2, (j1 ++ j2) ++ ks, fun p hp => List.mem_append_right _ hp, h.more kb (j1 ++ j2) (fun p hp => ?_), fun L' s' W2 hS => ?_⟩
  · rcases List.mem_append.1 hp with hp | hp
    · exact q1 p hp
    · exact q2 p hp
  · exact ⟨p1 W2 (fun p hp => hS.ns0.row (List.mem_append_left _ (List.mem_append_left _ hp))), p2 W2 (fun p hp => hS.ns0.row (List.mem_append_left _ (List.mem_append_right _ hp)))⟩
end Go.Proofs.YtflnpcgnenhogaaDoor.ls
