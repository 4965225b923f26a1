/- Statement EdgesNone: the text of edges; Group where it refuses, or has nothing to do. -/
import Derived.BigQuiet
import Derived.BigRegion
import Derived.Deep.CutRange
import Derived.Deep.Upon
import Derived.Deep.RegionHeld3
import Derived.Laws.IdiomCopy
import Derived.Test.YthaicpbdlhkkkaaEdgGrp
import Derived.Lib.ItoaNum
import Derived.Lib.ItoaLen
import Derived.Laws.IdiomStrings
import Derived.IntWalk
namespace Go.Proofs.Ythaicpbdlhkkkaa.edg
open Go.RowKit Go.Proofs.Ythaicpbdlhkkkaa.own

theorem Try.infoByte : (Try.prog.info? 5).map (fun i => (i.zero, i.size, i.bytes)) = some (some (.int .u8 0), 1, 1) := by kernel_rfl
def bvs (l : B) : List Value := l.map fun c => .int .u8 (c.toNat : Int)

theorem nDigits_le (k : Nat) : ∀ n, n < 10 ^ (k + 1) → Lib.nDigits n ≤ k + 1 := by
  induction k with
  | zero => intro n h; rw [Lib.nDigits, dif_pos (by omega)]; omega
  | succ k ih =>
    intro n h
    rw [Lib.nDigits]
    split
    · omega
    · have := ih (n / 10) (by rw [Nat.pow_succ] at h; omega)
      omega
theorem decDigits_le {n : Nat} (h : n < 4294967296) : (Lib.decDigits n).length ≤ 10 := by
  rw [Lib.decDigits_length]
  exact nDigits_le 9 n (by omega)
theorem decDigits_pos (n : Nat) : 1 ≤ (Lib.decDigits n).length := by
  rw [Lib.decDigits]
  split <;> simp

/-- the digits that stand in the array from a place on -/
def DigAt (w : World) (db : Nat) (a : Nat) (acc : B) : Prop :=
  ∃ cs, w.heap[db]? = some (.cells cs 118 (0, 0)) ∧ cs.size = 10 ∧ acc.length + a = 10 ∧ ∀ j (hj : j < acc.length), cs[a + j]? = some (.int .u8 (acc[j].toNat : Int))
theorem DigAt.more {w : World} {db b : Nat} {acc : B} (h : DigAt w db (b + 1) acc) (c : UInt8) : DigAt (w.setCell ⟨db, b, none⟩ (.int .u8 (c.toNat : Int))) db b (c :: acc) := by
  obtain ⟨cs, h0, h1, h2, h3⟩ := h
  refine ⟨cs.setIfInBounds b (.int .u8 (c.toNat : Int)), heap_setCell_same w db b _ _ _ h0, by simpa using h1, by rw [List.length_cons]; omega, fun j hj => ?_⟩
  cases j with
  | zero =>
    rw [Nat.add_zero, Array.getElem?_setIfInBounds_self_of_lt (by omega)]
    rfl
  | succ j =>
    have hj' : j < acc.length := by simpa using hj
    rw [Array.getElem?_setIfInBounds_ne (by omega)]
    have := h3 j hj'
    rw [show b + (j + 1) = b + 1 + j by omega, this]
    rfl
theorem DigAt.cell {w : World} {db a : Nat} {acc : B} (h : DigAt w db a acc) : ∀ j u, (bvs acc)[j]? = some u → w.cell? ((⟨db, a, none⟩ : Addr).add j) = some u := by
  obtain ⟨cs, h0, h1, h2, h3⟩ := h
  intro j u hu
  obtain ⟨hj, rfl⟩ := List.getElem?_eq_some_iff.1 hu
  have hj' : j < acc.length := by simpa [bvs] using hj
  rw [Addr.add_lit, cell_of_row w db _ _ _ _ h0, h3 j hj']
  simp [bvs]
theorem DigAt.any {w : World} {db a : Nat} {acc : B} (h : DigAt w db a acc) (j : Nat) (hj : j < 10) : (∃ q, w.cell? ⟨db, j, none⟩ = some q) ∧ w.frozen? ⟨db, j, none⟩ = false := by
  obtain ⟨cs, h0, h1, h2, h3⟩ := h
  exact ⟨⟨cs[j], by rw [cell_of_row w db _ _ _ _ h0]; simp [show j < cs.size by omega]⟩, frozen_of_row w db j _ _ h0⟩
theorem arrLen : Try.prog.arrayLen 118 = 10 := by kernel_rfl
theorem arrTy : Try.prog.underlying 118 = some (.array (Try.prog.arrayLen 118) (Try.prog.elem 118)) := by kernel_rfl
theorem arrSize (w : World) : (sizeOf (Try.prog.elem 118)).run Try.prog w = .ok 1 w := by kernel_rfl
theorem arr_from (w : World) (db b : Nat) (hb : b ≤ 9) : (Instr.sliceAt 118 (.pointer (some ⟨db, 0, none⟩)) (some (.int .i64 (b : Int))) none none).run Try.prog w = .ok (.slice (some ⟨db, b, none⟩) (10 - b) (10 - b)) w := by
  rw [run_sliceAt_array_l w _ _ arrTy .i64 b (by omega) (by rw [arrLen]; omega), arrSize, arrLen]
  show Result.ok (slicedAt _ _ _ _ _) _ = _
  unfold slicedAt
  rw [if_neg (by omega)]
  simp [Addr.add_lit]
theorem dig_byte (q : Nat) (h : q < 10) : ((UInt8.ofNat (48 + q)).toNat : Int) = 48 + (q : Int) := by
  have : (UInt8.ofNat (48 + q)).toNat = 48 + q := by
    show (48 + q) % 256 = 48 + q
    omega
  rw [this]; omega

theorem grown_below {w W w2 : World} {r : Option Nat} (h : Below w.heap.size w W) (hg : W.grownBy w2 r) : w.grownBy w2 r :=
  ⟨hg.os.trans h.os, hg.tape.trans h.tape, hg.output.trans h.output, Nat.le_trans h.size hg.size, fun k hk hne => (hg.block k (Nat.lt_of_lt_of_le hk h.size) hne).trans (h.block k hk)⟩
set_option maxRecDepth 100000 in
set_option maxHeartbeats 3200000 in
theorem shown_any (w : World) (base : Nat) (v : Value) (l : B) (n : Nat) (hn : n < 4294967296) (hown : w.ownsRow base 5 1 v l.length (bvs l)) (hlen : l.length ≤ 1099511627776) (hbase : base ≤ w.heap.size) :
    Calls Try.prog 42 #[v, .int .u32 n] w fun e w' => ∃ v', e = .returned v' ∧ w'.ownsRow base 5 1 v' (l ++ Lib.decDigits n).length (bvs (l ++ Lib.decDigits n)) ∧ w.grownBy w' v.ownBlock ∧ (v'.ownBlock = v.ownBlock ∨ ∃ k, v'.ownBlock = some k ∧ w.heap.size ≤ k) := by
  obtain ⟨i0, hi, hz0, hz1, hz2⟩ := info_parts Try.infoByte
  have HO := Lib.hid hown
  clear hown
  go_enter Try.func42, Try.ntmps42
  go_upto_region 2 with fail
  have D0 : Hid (DigAt (w.alloc (.cells #[.int .u8 0, .int .u8 0, .int .u8 0, .int .u8 0, .int .u8 0, .int .u8 0, .int .u8 0, .int .u8 0, .int .u8 0, .int .u8 0] 118)) w.heap.size 10 []) := Lib.hid ⟨_, heap_alloc_new w _, rfl, rfl, fun j hj => by simp at hj⟩
  have B0 : Hid (Below w.heap.size w (w.alloc (.cells #[.int .u8 0, .int .u8 0, .int .u8 0, .int .u8 0, .int .u8 0, .int .u8 0, .int .u8 0, .int .u8 0, .int .u8 0, .int .u8 0] 118))) := Lib.hid ((Below.refl _ _).alloc (Nat.le_refl _) _)
  generalize World.alloc w _ = W0 at D0 B0 ⊢
  go_wp2_with fail
  go_loopw [1, 6] (fun vn va wr => ∃ (m b : Nat) (acc : B), vn = .int .u32 m ∧ va = .int .i64 ((b + 1 : Nat) : Int) ∧ b ≤ 9 ∧ m < 4294967296 ∧ Lib.decDigits n = Lib.decDigits m ++ acc ∧ DigAt wr w.heap.size (b + 1) acc ∧ Below w.heap.size w wr) (fun _ va _ => (intOf va).toNat)
  case atStart => exact ⟨n, 9, [], rfl, rfl, by omega, hn, by simp, D0.out, B0.out⟩
  case round =>
    obtain ⟨m, b, acc, rfl, rfl, hb, hm, hd, hD, hB⟩ := hrel
    have DA := Lib.hid hD
    have BA := Lib.hid hB
    have DD := Lib.hid hd
    have hlq : (Lib.decDigits n).length ≤ 10 := decDigits_le hn
    rw [hd, List.length_append] at hlq
    have hac : acc.length = 9 - b := by obtain ⟨_, _, _, h2, _⟩ := hD; omega
    obtain ⟨⟨q0, hq0⟩, hfz⟩ := hD.any b (by omega)
    obtain ⟨r, hr⟩ : ∃ r, m % 10 = r := ⟨_, rfl⟩
    have hr10 : r < 10 := by omega
    have hq1 : (m : Int).tmod 10 = (r : Int) := by rw [Int.tmod_eq_emod_of_nonneg (by omega)]; omega
    have DB := Lib.hid (hD.more (UInt8.ofNat (48 + r)))
    rw [dig_byte r hr10] at DB
    have BB : Hid (Below w.heap.size w (wr.setCell ⟨w.heap.size, b, none⟩ (.int .u8 (48 + (r : Int))))) := Lib.hid (hB.setCell (Nat.le_refl _) _)
    clear hd hD hB
    go_upto_if 18 with fail
    generalize World.setCell wr _ _ = W1 at DB BB ⊢
    clear DA BA hq0 hfz hq1
    by_cases hz : m / 10 = 0
    · have hb1 : ((m : Int) / 10 == 0) = true := beqT (by omega)
      have R : Hid (Lib.decDigits n = UInt8.ofNat (48 + r) :: acc) := Lib.hid (by
        rw [DD.out, Lib.decDigits_one (by omega), show m = r by omega]
        rfl)
      obtain ⟨acc', ha'⟩ : ∃ a, UInt8.ofNat (48 + r) :: acc = a := ⟨_, rfl⟩
      rw [ha'] at R DB
      have hl' : acc'.length = 10 - b := by rw [← ha', List.length_cons]; omega
      have HO1 := Lib.hid (HO.out.kept (row := none) ⟨BB.out.os, BB.out.tape, BB.out.output, BB.out.size, fun k hk _ => BB.out.block k hk⟩ (by cases v.ownBlock <;> simp))
      have hsz := BB.out.size
      have hcl := Lib.hid DB.out.cell
      have h1c : Hid (∀ u ∈ bvs acc', u.oneCell' = true) := Lib.hid (by intro u hu; obtain ⟨c, _, rfl⟩ := List.mem_map.1 hu; rfl)
      clear ha' hz
      have hsl := arr_from W1 w.heap.size b hb
      go_wp2_with (at_builtin; refine wpList_append_at _ rfl _ _ 53 rfl base 5 i0 _ 1 1 Try.underlying53 hi hz0 hz1 hz2 rfl (by decide) v l.length (bvs l) rfl HO1.out ⟨w.heap.size, b, none⟩ (10 - b) _ (bvs acc') rfl ?c1 ?c6 ?c7 ?c3 ?c4 ?c5 ?c8 ?_)
      try case c6 => exact hcl.out
      try case c7 => exact h1c.out
      try case c1 => simp [bvs]; omega
      try case c3 => simp only [maxLen]; omega
      try case c4 => omega
      try case c5 => omega
      try case c8 => omega
      intro v2 w2 hown2 hg2 hat2
      have HO2 := Lib.hid hown2
      have HB2 : Hid (w.grownBy w2 v.ownBlock ∧ (v2.ownBlock = v.ownBlock ∨ ∃ k, v2.ownBlock = some k ∧ w.heap.size ≤ k)) := Lib.hid ⟨grown_below BB.out hg2, hat2.imp id (fun e => ⟨_, e, hsz⟩)⟩
      clear hown2 hg2 hat2
      go_wp2_with fail
      go_ret
      exact ⟨_, rfl, by rw [R.out]; have := HO2.out; simpa [bvs, hl'] using this, HB2.out⟩
    · have hb1 : ((m : Int) / 10 == 0) = false := beqF (by omega)
      have R : Hid (Lib.decDigits n = Lib.decDigits (m / 10) ++ UInt8.ofNat (48 + r) :: acc) := Lib.hid (by
        rw [DD.out]
        conv => lhs; rw [Lib.decDigits, dif_neg (by omega)]
        rw [hr, List.append_assoc]
        rfl)
      have hlen2 := decDigits_pos (m / 10)
      have hlen3 := decDigits_le hn
      rw [R.out, List.length_append, List.length_cons] at hlen3
      obtain ⟨b', rfl⟩ : ∃ b', b = b' + 1 := ⟨b - 1, by omega⟩
      clear hz
      go_wp2_with fail
      go_roundw
      case rel => exact ⟨m / 10, b', UInt8.ofNat (48 + r) :: acc, by congr 1, rfl, by omega, by omega, R.out, DB.out, BB.out⟩
      case measure => simp [intOf]; omega

def showL (l : List (Nat × Nat)) : B := l.flatMap fun t => Lib.decDigits t.1 ++ 32 :: (Lib.decDigits t.2 ++ [10])
theorem showL_take (l : List (Nat × Nat)) (k : Nat) (h : k < l.length) : showL (l.take (k + 1)) = showL (l.take k) ++ Lib.decDigits l[k].1 ++ [32] ++ Lib.decDigits l[k].2 ++ [10] := by
  unfold showL
  rw [List.take_succ_eq_append_getElem h, List.flatMap_append]
  simp
theorem showL_len (l : List (Nat × Nat)) (h : ∀ t ∈ l, t.1 < 4294967296 ∧ t.2 < 4294967296) : (showL l).length ≤ 22 * l.length := by
  induction l with
  | nil => simp [showL]
  | cons t r ih =>
    have h1 := decDigits_le (h t (List.mem_cons_self ..)).1
    have h2 := decDigits_le (h t (List.mem_cons_self ..)).2
    have h3 := ih (fun x hx => h x (List.mem_cons_of_mem _ hx))
    have e : showL (t :: r) = (Lib.decDigits t.1 ++ 32 :: (Lib.decDigits t.2 ++ [10])) ++ showL r := rfl
    simp only [e, List.length_append, List.length_cons, List.length_nil]
    omega

/-- a text that grows: an edge stands beside it, and rows of one byte -/
def SH (w0 : World) (base eb f t : Nat) (acc : B) (v : Value) (ks : List (Nat × Int)) (W : World) : Prop :=
  Below base w0 W ∧ base ≤ W.heap.size ∧ (W.heap[eb]? = some (.cells #[.int .u32 (f : Int), .int .u32 (t : Int)] 37 (0, 0)) ∧ v.ownBlock ≠ some eb) ∧ W.ownsRow base 5 1 v acc.length (bvs acc) ∧ ∀ p ∈ ks, W.heap[p.1]? = some (.cells #[.int .u8 p.2] 5 (0, 0)) ∧ v.ownBlock ≠ some p.1
theorem SH.next {w0 W W2 : World} {base eb f t : Nat} {acc : B} {v : Value} {ks : List (Nat × Int)} (h : SH w0 base eb f t acc v ks W) (k : Below W.heap.size W W2) : SH w0 base eb f t acc v ks W2 := by
  obtain ⟨h1, h2, h3, h4, h5⟩ := h
  exact ⟨h1.trans (k.mono h2), Nat.le_trans h2 k.size, ⟨(k.block _ (lt_of_block h3.1)).trans h3.1, h3.2⟩, own_below h4 k, fun p hp => ⟨(k.block _ (lt_of_block (h5 p hp).1)).trans (h5 p hp).1, (h5 p hp).2⟩⟩
theorem SH.drew {w0 W : World} {base eb f t : Nat} {acc : B} {v : Value} {ks : List (Nat × Int)} (h : SH w0 base eb f t acc v ks W) : SH w0 base eb f t acc v ks W.drew := h.next (Below.drew (Below.refl _ _))
theorem SH.byte {w0 W : World} {base eb f t : Nat} {acc : B} {v : Value} {ks : List (Nat × Int)} (h : SH w0 base eb f t acc v ks W) (c : Int) : SH w0 base eb f t acc v ((W.heap.size, c) :: ks) (W.alloc (.cells #[.int .u8 c] 5)) := by
  have k : Below W.heap.size W (W.alloc (.cells #[.int .u8 c] 5)) := (Below.refl _ _).alloc (Nat.le_refl _) _
  have h4 := h.2.2.2.1
  obtain ⟨g1, g2, g3, g4, g5⟩ := h.next k
  refine ⟨g1, g2, g3, g4, fun p hp => ?_⟩
  rcases List.mem_cons.1 hp with rfl | hp
  · refine ⟨heap_alloc_new W _, fun e => ?_⟩
    have := (h4.lt _ e).2
    omega
  · exact g5 p hp
/-- the text is longer -/
theorem SH.turn {w0 W W2 : World} {base eb f t : Nat} {acc acc' : B} {v v' : Value} {ks : List (Nat × Int)} (h : SH w0 base eb f t acc v ks W) (ho : W2.ownsRow base 5 1 v' acc'.length (bvs acc')) (hg : W.grownBy W2 v.ownBlock) (hat : v'.ownBlock = v.ownBlock ∨ ∃ k, v'.ownBlock = some k ∧ W.heap.size ≤ k) :
    SH w0 base eb f t acc' v' ks W2 := by
  obtain ⟨h1, h2, h3, h4, h5⟩ := h
  have ne : ∀ b, b < W.heap.size → v.ownBlock ≠ some b → v'.ownBlock ≠ some b := by
    intro b hb hv e
    rcases hat with e2 | ⟨k, e2, hk⟩
    · rw [e2] at e; exact hv e
    · rw [e2] at e; injection e with e; omega
  refine ⟨h1.grown hg h2 (fun k hk => (h4.lt k hk).1), Nat.le_trans h2 hg.size, ⟨(hg.block eb (lt_of_block h3.1) (fun e => h3.2 e.symm)).trans h3.1, ne _ (lt_of_block h3.1) h3.2⟩, ho, fun p hp => ?_⟩
  obtain ⟨g1, g2⟩ := h5 p hp
  exact ⟨(hg.block p.1 (lt_of_block g1) (fun e => g2 e.symm)).trans g1, ne _ (lt_of_block g1) g2⟩
theorem SH.shown {w0 W : World} {base eb f t : Nat} {acc : B} {v : Value} {ks : List (Nat × Int)} (h : SH w0 base eb f t acc v ks W) (n : Nat) (hn : n < 4294967296) (hl : acc.length ≤ 1099511627776) :
    Calls Try.prog 42 #[v, .int .u32 n] W fun e w' => ∃ v', e = .returned v' ∧ SH w0 base eb f t (acc ++ Lib.decDigits n) v' ks w' := by
  refine (shown_any W base v acc n hn h.2.2.2.1 hl h.2.1).mono ?_
  rintro e w' ⟨v', rfl, ho, hg, hat⟩
  exact ⟨v', rfl, h.turn ho hg hat⟩

theorem SH.e {w0 W : World} {base eb f t : Nat} {acc : B} {v : Value} {ks : List (Nat × Int)} (h : SH w0 base eb f t acc v ks W) : W.cell? ⟨eb, 0, none⟩ = some (.int .u32 (f : Int)) ∧ W.cell? ⟨eb, 1, none⟩ = some (.int .u32 (t : Int)) :=
  ⟨(cell_of_row W _ _ _ _ _ h.2.2.1.1).trans rfl, (cell_of_row W _ _ _ _ _ h.2.2.1.1).trans rfl⟩
/-- a byte is appended, as a step of a region that draws -/
theorem SH.add {w0 W : World} {base eb f t : Nat} {acc : B} {v : Value} {ks : List (Nat × Int)} {o : Oper} {a : Act} {K : Act → World → Prop} {Q : Exit → Act → World → Prop} {c : Bool} {E : Prop} (h : SH w0 base eb f t acc v ks W) (hc : c = true) (s x : Operand)
    (ho : o.op = .call { callee := .builtin .append, args := #[s, x], argTypes := #[53, 53] }) (hs : a.eval s = v) (ad : Nat) (hx : a.eval x = .slice (some ⟨ad, 0, none⟩) 1 1) (ch : UInt8) (hm : (ad, (ch.toNat : Int)) ∈ ks) (hl : acc.length ≤ 1099511627776)
    (hK : ∀ v' w', SH w0 base eb f t (acc ++ [ch]) v' ks w' → K (a.put o.dst v') w') :
    if c = true then Oper.wp Try.prog o a W K Q else E := by
  rw [if_pos hc]
  obtain ⟨i0, hi, hz0, hz1, hz2⟩ := info_parts Try.infoByte
  have h4 := h.2.2.2.1
  have hr0 := (h.2.2.2.2 _ hm).1
  have hnews : ∀ j u, [Value.int .u8 (ch.toNat : Int)][j]? = some u → W.cell? ((⟨ad, 0, none⟩ : Addr).add j) = some u := World.news_of_block (cs := #[.int .u8 (ch.toNat : Int)]) (t := 5) (fr := (0, 0)) hr0
  have h1 : ∀ u ∈ [Value.int .u8 (ch.toNat : Int)], u.oneCell' = true := by intro u hu; simp at hu; subst hu; rfl
  obtain ⟨v', w', hr, h2, h3, _⟩ := run_append_own (P := Try.prog) W base 53 o.type 5 i0 _ 1 1 Try.underlying53 hi hz0 hz1 hz2 rfl (by decide) v acc.length (bvs acc) h4 ⟨ad, 0, none⟩ 1 1 [.int .u8 (ch.toNat : Int)] rfl hnews h1 (by simp only [maxLen]; omega) (by omega) h.2.1
  have hat := append_where (P := Try.prog) W base 53 o.type 5 i0 _ 1 1 Try.underlying53 hi hz0 hz1 hz2 v acc.length (bvs acc) h4 ⟨ad, 0, none⟩ 1 1 [.int .u8 (ch.toNat : Int)] rfl hnews h1 (by simp only [maxLen]; omega) (by omega) (by decide) hr
  unfold Oper.wp execOp
  simp only [ho, resolve, invoke, builtin, Sem.run_bind, Sem.run_pure, Result.andThen_ok, List.map_toArray, List.map_cons, List.map_nil, hs, hx, hr]
  refine hK v' w' (h.turn ?_ h3 (hat.imp id (fun e => ⟨_, e, Nat.le_refl _⟩)))
  simpa [bvs] using h2

theorem text_of {W : World} {base : Nat} {v : Value} {acc : B} (ho : W.ownsRow base 5 1 v acc.length (bvs acc)) :
    (convert 53 9 v).run Try.prog W = .ok (.string ⟨acc.toArray⟩) W := by
  rcases ho.2 with ⟨hv, hz⟩ | ⟨g, cap, cur, hv, _⟩
  · have hp : acc = [] := List.eq_nil_of_length_eq_zero hz
    rw [hv, hp]
    exact run_convert_bytes_nil (P := Try.prog) W 53 5 (by kernel_rfl) (by kernel_rfl) 0 0 9 (by kernel_rfl)
  · subst hv
    have hc := run_convert_bytes_back (P := Try.prog) W 53 9 5 ⟨g, 0, none⟩ cap acc (by kernel_rfl) (by kernel_rfl) (by kernel_rfl) (fun j hj => by
      rw [Addr.add_lit, Nat.zero_add, ho.cellAt j (by omega)]
      simp [bvs, hj])
    exact hc

set_option maxRecDepth 100000 in
set_option maxHeartbeats 6400000 in
theorem show_any (w : World) (aT : Option Addr) (l : List (Nat × Nat)) (c : Nat) (h : EdgIs w aT l) (hlen : l.length ≤ 1073741824) :
    Calls Try.prog 19 #[.slice aT l.length c] w fun e w' => e = .returned (.string ⟨(showL l).toArray⟩) ∧ Below w.heap.size w w' := by
  obtain ⟨i0, hi, hz0, hz1, hz2⟩ := info_parts Try.infoByte
  have HE := Lib.hid h
  clear h
  have O0 : Hid (w.ownsRow w.heap.size 5 1 (.slice none 0 0) (showL (l.take 0)).length (bvs (showL (l.take 0)))) := Lib.hid ⟨by simp [showL, bvs], .inl ⟨rfl, by simp [showL]⟩⟩
  go_enter Try.func19, Try.ntmps19
  go_wp2_with fail
  obtain ⟨B, hB⟩ : ∃ B, w.heap.size = B := ⟨_, rfl⟩
  rw [hB] at O0
  have HB := Lib.hid hB
  clear hB hi hz0 hz1 hz2
  have HU : Hid (∀ x ∈ l, x.1 < 4294967296 ∧ x.2 < 4294967296) := Lib.hid (fun x hx => by
    obtain ⟨k, hk, rfl⟩ := List.getElem_of_mem hx
    obtain ⟨_, _, _, _, _, _, u0, u1⟩ := HE.out k hk
    exact ⟨u0, u1⟩)
  have BW : Hid (Below B w w) := Lib.hid (Below.refl _ _)
  go_loopw [3, 8] (fun vb vi wr => ∃ k : Nat, vi = .int .i64 (k : Int) ∧ k ≤ l.length ∧ wr.ownsRow B 5 1 vb (showL (l.take k)).length (bvs (showL (l.take k))) ∧ Below B w wr) (fun _ vi _ => l.length - (intOf vi).toNat)
  case atStart => exact ⟨0, rfl, Nat.zero_le _, O0.out, BW.out⟩
  case round =>
    obtain ⟨k, rfl, hk, hO, hBl⟩ := hrel
    obtain ⟨va, cap, rfl⟩ := own_shape hO
    have HO := Lib.hid hO
    have HL := Lib.hid hBl
    by_cases hlt : k < l.length
    · obtain ⟨g, o, ha, hgl, hc0, hc1, u0, u1⟩ := HE.out k hlt
      subst ha
      have e0 := (hBl.cell (p := ⟨g, o + k * 2, none⟩) (by have := HB.out; simp; omega)).trans hc0
      have e1 := (hBl.cell (p := ⟨g, o + k * 2 + 1, none⟩) (by have := HB.out; simp; omega)).trans hc1
      have GT := Lib.hid (showL_take l k hlt)
      have LN : Hid ((showL (l.take k)).length ≤ 23622320128) := Lib.hid (by
        have h := showL_len (l.take k) (fun x hx => HU.out x (List.mem_of_mem_take hx))
        rw [List.length_take] at h
        omega)
      obtain ⟨f, hf2⟩ : ∃ f, l[k].1 = f := ⟨_, rfl⟩
      obtain ⟨t, ht2⟩ : ∃ t, l[k].2 = t := ⟨_, rfl⟩
      rw [hf2] at e0 u0 GT
      rw [ht2] at e1 u1 GT
      have k0 : (k : Int) < (l.length : Int) := by omega
      have DF := Lib.hid (decDigits_le u0)
      clear hf2 ht2 hc0 hc1 hO hBl
      go_upto_region 5 with fail
      clear e0 e1
      have H5 : SH w B wr.heap.size f t (showL (l.take k)) (.slice va (showL (l.take k)).length cap) [] (wr.alloc (.cells #[.int .u32 (f : Int), .int .u32 (t : Int)] 37)) := by
        have k1 : Below wr.heap.size wr (wr.alloc (.cells #[.int .u32 (f : Int), .int .u32 (t : Int)] 37)) := (Below.refl _ _).alloc (Nat.le_refl _) _
        have hb : B ≤ wr.heap.size := by have h1 := HL.out.size; have h2 := HB.out; omega
        exact ⟨HL.out.trans (k1.mono hb), Nat.le_trans hb k1.size, ⟨heap_alloc_new wr _, fun e => Nat.lt_irrefl _ (HO.out.lt _ e).2⟩, own_below HO.out k1, fun p hp => by cases hp⟩
      obtain ⟨eb, heb⟩ : ∃ b, wr.heap.size = b := ⟨_, rfl⟩
      rw [heb] at H5 ⊢
      generalize wr.alloc (.cells #[.int .u32 (f : Int), .int .u32 (t : Int)] 37) = W5 at H5 ⊢
      clear heb
      go_region_held3 (fun w' => w'.cell? ⟨eb, 0, none⟩ = some (.int .u32 (f : Int)) ∧ w'.cell? ⟨eb, 1, none⟩ = some (.int .u32 (t : Int)))
        (first
        | (with_reducible exact SH.e H5)
        | (with_reducible exact SH.e (SH.drew H5))
        | (with_reducible exact SH.e (SH.byte H5 _))
        | (with_reducible exact SH.e (SH.drew (SH.byte H5 _)))
        | (with_reducible exact SH.e (SH.byte (SH.byte H5 _) _))
        | (with_reducible exact SH.e (SH.drew (SH.byte (SH.byte H5 _) _)))
        | (with_reducible exact SH.e h2)
        | (with_reducible exact SH.e (SH.drew h2))
        | (with_reducible exact SH.e (SH.byte h2 _))
        | (with_reducible exact SH.e (SH.drew (SH.byte h2 _)))
        | (with_reducible exact SH.e (SH.byte (SH.byte h2 _) _))
        | (with_reducible exact SH.e (SH.drew (SH.byte (SH.byte h2 _) _)))
        | (with_reducible exact SH.e h3)
        | (with_reducible exact SH.e (SH.drew h3))
        | (with_reducible exact SH.e (SH.byte h3 _))
        | (with_reducible exact SH.e (SH.drew (SH.byte h3 _)))
        | (with_reducible exact SH.e (SH.byte (SH.byte h3 _) _))
        | (with_reducible exact SH.e (SH.drew (SH.byte (SH.byte h3 _) _)))
        | (with_reducible exact SH.e h4)
        | (with_reducible exact SH.e (SH.drew h4))
        | (with_reducible exact SH.e (SH.byte h4 _))
        | (with_reducible exact SH.e (SH.drew (SH.byte h4 _)))
        | (with_reducible exact SH.e (SH.byte (SH.byte h4 _) _))
        | (with_reducible exact SH.e (SH.drew (SH.byte (SH.byte h4 _) _)))
        | (with_reducible exact SH.e h6)
        | (with_reducible exact SH.e (SH.drew h6))
        | (with_reducible exact SH.e (SH.byte h6 _))
        | (with_reducible exact SH.e (SH.drew (SH.byte h6 _)))
        | (with_reducible exact SH.e (SH.byte (SH.byte h6 _) _))
        | (with_reducible exact SH.e (SH.drew (SH.byte (SH.byte h6 _) _))))
        (first
        | (go_at_call_has 42 (Value.int .u32 (f : Int)); refine (SH.shown (by first | (with_reducible exact H5) | (with_reducible exact SH.drew H5) | (with_reducible exact SH.byte H5 _) | (with_reducible exact SH.drew (SH.byte H5 _)) | (with_reducible exact SH.byte (SH.byte H5 _) _) | (with_reducible exact SH.drew (SH.byte (SH.byte H5 _) _))) f u0 (by have := LN.out; omega)).mono ?_; rintro e w2 ⟨v2, rfl, h2⟩)
        | (go_at_call_has 42 (Value.int .u32 (t : Int)); refine (SH.shown (by first | (with_reducible exact h3) | (with_reducible exact SH.drew h3) | (with_reducible exact SH.byte h3 _) | (with_reducible exact SH.drew (SH.byte h3 _)) | (with_reducible exact SH.byte (SH.byte h3 _) _) | (with_reducible exact SH.drew (SH.byte (SH.byte h3 _) _))) t u1 (by have h1 := LN.out; have h2 := DF.out; simp only [List.length_append, List.length_cons, List.length_nil]; omega)).mono ?_; rintro e w4 ⟨v4, rfl, h4⟩)
        | (refine SH.add (by first | (with_reducible exact h2) | (with_reducible exact SH.drew h2) | (with_reducible exact SH.byte h2 _) | (with_reducible exact SH.drew (SH.byte h2 _)) | (with_reducible exact SH.byte (SH.byte h2 _) _) | (with_reducible exact SH.drew (SH.byte (SH.byte h2 _) _))) (by rfl) (.tmp 15) (.tmp 16) (by rfl) (by rfl) _ (by rfl) 32 (by simp) (by have h1 := LN.out; have h2 := DF.out; simp only [List.length_append]; omega) ?_; intro v3 w3 h3)
        | (refine SH.add (by first | (with_reducible exact h4) | (with_reducible exact SH.drew h4) | (with_reducible exact SH.byte h4 _) | (with_reducible exact SH.drew (SH.byte h4 _)) | (with_reducible exact SH.byte (SH.byte h4 _) _) | (with_reducible exact SH.drew (SH.byte (SH.byte h4 _) _))) (by rfl) (.tmp 20) (.tmp 21) (by rfl) (by rfl) _ (by rfl) 10 (by simp) (by have h1 := LN.out; have h2 := DF.out; have h3 := decDigits_le u1; simp only [List.length_append, List.length_cons, List.length_nil]; omega) ?_; intro v6 w6 h6))
      all_goals
        obtain ⟨hB6, -, -, hO6, -⟩ := h6
        rw [← GT.out] at hO6
        have HO6 := Lib.hid hO6
        have HB6 := Lib.hid hB6
        clear hB6 hO6
        go_wp2_with fail
        go_roundw
        case rel => exact ⟨k + 1, by go_num, by omega, HO6.out, HB6.out⟩
        case measure => simp [intOf]; omega
    · have hkl : k = l.length := by omega
      have k0 : ¬ (k : Int) < (l.length : Int) := by omega
      have TX := text_of hO
      rw [hkl, List.take_length] at TX
      have HT := Lib.hid TX
      have TX : (convert 53 9 (.slice va (showL (l.take k)).length cap)).run Try.prog wr = .ok (.string ⟨(showL l).toArray⟩) wr := by
        rw [hkl, List.take_length]; exact HT.out
      clear hO hBl hkl HT
      go_wp2_with fail
      go_ret
      exact ⟨rfl, by rw [HB.out]; exact HL.out⟩
end Go.Proofs.Ythaicpbdlhkkkaa.edg
