/- blockdev: slices.Backward over writes, and what a block has: now (the worked text for slices.All turned to a descending loop over structs). -/
import Derived.Test.YtbgbomlmgkgkoaaGreatDvA
import Derived.RangeFuncNested
import Derived.RangeFuncBound
import Derived.RangeFuncBox
import Derived.RangeFuncLeaves
import Derived.Shelf.Abstract
import Derived.OwnWalkIn
import Derived.TacticsInMore
import Derived.LoopNIn
import Derived.LoopIn
namespace Go.Proofs.YtbgbomlmgkgkoaaGreat.dv
open Go.RowKit Go.Shelf Go.Proofs.YtbgbomlmgkgkoaaGreat.own Go.Proofs.YtbgbomlmgkgkoaaGreat.po
attribute [local go_sem] Oper.semAt_some

abbrev Wr := Int × ByteArray
def wr0 : Wr := (0, ByteArray.empty)
/-- what has come when k rounds are over: from the last on -/
def backs (zs : List Wr) (k : Nat) : List (Nat × Wr) := (List.range k).map fun j => (zs.length - 1 - j, zs[zs.length - 1 - j]?.getD wr0)
theorem backs_succ (zs : List Wr) (k : Nat) : backs zs (k + 1) = backs zs k ++ [(zs.length - 1 - k, zs[zs.length - 1 - k]?.getD wr0)] := by simp [backs, List.range_succ]
theorem backs_length (zs : List Wr) (k : Nat) : (backs zs k).length = k := by simp [backs]
def encB (x : Nat × Wr) : Array Value := #[Value.int .i64 (x.1 : Int), .agg #[.int .i64 x.2.1, .string x.2.2]]

set_option maxRecDepth 100000 in
set_option maxHeartbeats 2000000 in
theorem back1_in (F : Fence) (n : Nat) (h7 : F.fn 165) (hro : F.round = none) (hn : 1 ≤ n) (l Bs n₀ b cap : Nat) (zs : List Wr) (hreach : zs.length * 24 ≤ 140737488351232) (hb : b < n₀) (J Jx : List (Nat × Wr) → World → Prop)
    (hY : ∀ pre x W, J pre W → pre.length < zs.length → YieldAt F (n - 1) Tryz.prog l (encB x) W fun e W' =>
      (e = .returned (.bool true) ∧ J (pre ++ [x]) W' ∧ Below n₀ W W') ∨ (e = .returned (.bool false) ∧ Jx (pre ++ [x]) W'))
    (W : World) (hBs : W.cell? ⟨Bs, 0, none⟩ = some (.slice (some ⟨b, 0, none⟩) zs.length cap)) (hB2 : Bs < n₀)
    (hc : ∀ j, j < zs.length → W.cell? ⟨b, j * 2, none⟩ = some (.int .i64 (zs[j]?.getD wr0).1) ∧ W.cell? ⟨b, j * 2 + 1, none⟩ = some (.string (zs[j]?.getD wr0).2)) (h0 : J [] W) :
    CallsIn F n Tryz.prog 165 #[.func (.yield l) #[] #[], .pointer (some ⟨Bs, 0, none⟩)] W fun e W' => (∃ v, e = .returned v) ∧
      ((∃ ys, ys = backs zs zs.length ∧ J ys W') ∨ (∃ pre, (∃ k, k ≤ zs.length ∧ pre = backs zs k) ∧ Jx pre W')) := by
  refine callsIn_of_wp Tryz.func165 rfl h7 ?_ hro
  simp only [Tryz.ntmps165, List.size_toArray, List.length_cons, List.length_nil, Nat.reduceAdd, Nat.reduceSub, Array.replicate_succ, Array.replicate_zero, List.push_toArray, List.append_toArray, List.nil_append, List.cons_append]
  gi_wp2
  gi_loopw [3] (fun i wr => ∃ k : Nat, k ≤ zs.length ∧ i = .int .i64 ((zs.length : Int) - 1 - k) ∧ J (backs zs k) wr ∧ Below n₀ W wr)
    (fun i _ => (intOf i + 1).toNat)
  case atStart => exact ⟨0, Nat.zero_le _, by simp, h0, Below.refl _ _⟩
  case round =>
    obtain ⟨k, hk, rfl, hJs, hnx⟩ := hrel
    have hbs := (hnx.cell (p := ⟨Bs, 0, none⟩) hB2).trans hBs
    by_cases hlt : k < zs.length
    · obtain ⟨m, hm⟩ : ∃ m, m = zs.length - 1 - k := ⟨_, rfl⟩
      have hml : m < zs.length := by omega
      have hmi : ((zs.length : Int) - 1 - k) = (m : Int) := by omega
      rw [hmi]
      obtain ⟨hc1, hc2⟩ := hc m hml
      have hc1 := (hnx.cell (p := ⟨b, m * 2, none⟩) hb).trans hc1
      have hc2 := (hnx.cell (p := ⟨b, m * 2 + 1, none⟩) hb).trans hc2
      obtain ⟨fn, tmps, assign, body, hy, hR⟩ := hY _ (m, zs[m]?.getD wr0) wr hJs (by rw [backs_length]; exact hlt)
      unfold encB at hy
      dsimp only at hy
      generalize hz : zs[m]?.getD wr0 = z at hy hR hc1 hc2
      have HZ := Lib.hid hz
      have HM := Lib.hid hm
      have HMI := Lib.hid hmi
      clear hz hm hmi
      gi_wp2
      refine hR.mono ?_
      rintro e W3 (⟨rfl, hJ3, hk3⟩ | ⟨rfl, hJx3⟩)
      · gi_wp2
        go_roundw
        case rel => exact ⟨k + 1, by omega, by have := HMI.out; simp; omega, by rw [backs_succ, ← HM.out, HZ.out]; exact hJ3, hnx.trans hk3⟩
        case measure => simp [intOf] <;> omega
      · gi_wp2
        refine bodyPost_ret (results_none rfl _ _ _) rfl ?_
        exact ⟨⟨_, rfl⟩, .inr ⟨_, ⟨k + 1, by omega, by rw [backs_succ, ← HM.out, HZ.out]⟩, hJx3⟩⟩
    · obtain rfl : k = zs.length := by omega
      gi_wp2
      go_end0
      exact ⟨⟨_, rfl⟩, .inl ⟨_, rfl, hJs⟩⟩

set_option maxRecDepth 100000 in
set_option maxHeartbeats 1000000 in
theorem back1_nil_in (F : Fence) (n : Nat) (h8 : F.fn 165) (hro : F.round = none) (l Bs : Nat) (J : List (Nat × Wr) → World → Prop) (W : World) (hBs : W.cell? ⟨Bs, 0, none⟩ = some (.slice none 0 0)) (h0 : J [] W) :
    CallsIn F n Tryz.prog 165 #[.func (.yield l) #[] #[], .pointer (some ⟨Bs, 0, none⟩)] W fun e W' => (∃ v, e = .returned v) ∧ J [] W' := by
  refine callsIn_of_wp Tryz.func165 rfl h8 ?_ hro
  simp only [Tryz.ntmps165, List.size_toArray, List.length_cons, List.length_nil, Nat.reduceAdd, Nat.reduceSub, Array.replicate_succ, Array.replicate_zero, List.push_toArray, List.append_toArray, List.nil_append, List.cons_append]
  gi_wp2
  gi_loopw [3] (fun i wr => i = .int .i64 (-1) ∧ J [] wr) (fun _ _ => 0)
  case atStart => exact ⟨rfl, h0⟩
  case round =>
    obtain ⟨rfl, hJs⟩ := hrel
    gi_wp2
    go_end0
    exact ⟨⟨_, rfl⟩, hJs⟩

set_option maxHeartbeats 1000000 in
theorem back_in (F : Fence) (n : Nat) (h6 : F.fn 161) (hro : F.round = none) (a : Option Addr) (len cap : Nat) (w : World) :
    CallsIn F n Tryz.prog 161 #[.slice a len cap] w fun e w' => e = .returned (.func (.func 165) #[] #[.pointer (some ⟨w.heap.size, 0, none⟩)]) ∧ w' = w.alloc (.cells #[.slice a len cap] 153) := by
  refine callsIn_of_wp Tryz.func161 rfl h6 ?_ hro
  simp only [Tryz.ntmps161, List.size_toArray, List.length_cons, List.length_nil, Nat.reduceAdd, Nat.reduceSub, Array.replicate_succ, Array.replicate_zero, List.push_toArray, List.append_toArray, List.nil_append, List.cons_append]
  gi_wp2
  go_ret
  exact ⟨rfl, rfl⟩

/-- a slice value holds writes, in a block below n₀; or it is nil -/
def WrIn (n₀ : Nat) (W : World) (sv : Value) (zs : List Wr) : Prop :=
  (sv = .slice none 0 0 ∧ zs = []) ∨ ∃ b cap, sv = .slice (some ⟨b, 0, none⟩) zs.length cap ∧ b < n₀ ∧ ∀ j, j < zs.length → W.cell? ⟨b, j * 2, none⟩ = some (.int .i64 (zs[j]?.getD wr0).1) ∧ W.cell? ⟨b, j * 2 + 1, none⟩ = some (.string (zs[j]?.getD wr0).2)
theorem WrIn.below {n₀ : Nat} {A B : World} (h : Below n₀ A B) {sv : Value} {zs : List Wr} : WrIn n₀ A sv zs → WrIn n₀ B sv zs
  | .inl e => .inl e
  | .inr ⟨b, cap, e, hb, hc⟩ => .inr ⟨b, cap, e, hb, fun j hj => ⟨(h.cell (p := ⟨b, j * 2, none⟩) hb).trans (hc j hj).1, (h.cell (p := ⟨b, j * 2 + 1, none⟩) hb).trans (hc j hj).2⟩⟩
theorem WrIn.of_row {w : World} {cv : Value} {zs : List Wr} (h : w.ownsRow 0 157 2 cv zs.length (wvs zs)) : WrIn w.heap.size w cv zs := by
  rcases h.2 with ⟨hv, h0⟩ | ⟨g, cap, cur, hv, hb, hg, r⟩
  · have : zs = [] := List.eq_nil_of_length_eq_zero h0
    subst this
    exact .inl ⟨hv, rfl⟩
  · subst hv
    refine .inr ⟨g, cap, rfl, lt_of_block hg, fun j hj => ?_⟩
    obtain ⟨e1, e2⟩ := wvs_get zs j hj
    have hl := wvs_len zs
    constructor
    · rw [h.cellAt (j * 2) (by omega), e1, List.getElem?_eq_getElem hj]; rfl
    · rw [h.cellAt (j * 2 + 1) (by omega), e2, List.getElem?_eq_getElem hj]; rfl

theorem back_stops (F : Fence) (n : Nat) (h8 : F.fn 165) (hro : F.round = none) (hn : 1 ≤ n) (Bs n₀ : Nat) (sv : Value) (zs : List Wr) (hreach : zs.length * 24 ≤ 140737488351232) (w : World) (hBs : Bs < w.heap.size) (hB2 : Bs < n₀) (hn₀ : n₀ ≤ w.heap.size)
    (hc : w.cell? ⟨Bs, 0, none⟩ = some sv) (hI : WrIn n₀ w sv zs) :
    SeqStopsK F n Tryz.prog 165 #[.pointer (some ⟨Bs, 0, none⟩)] encB (Below n₀) (fun ys => ys = backs zs zs.length)
      (fun pre => ∃ k, k ≤ zs.length ∧ pre = backs zs k) zs.length w := fun l J Jx W hW _ _ hY h0 => by
  have hc' := (hW.cell (p := ⟨Bs, 0, none⟩) hBs).trans hc
  rcases hI.below (hW.mono hn₀) with ⟨rfl, rfl⟩ | ⟨b, cap, rfl, hb, hcs⟩
  · exact (back1_nil_in F n h8 hro l Bs J W hc' h0).mono fun e W' ⟨he, hj⟩ => ⟨he, .inl ⟨_, rfl, hj⟩⟩
  · exact back1_in F n h8 hro hn l Bs n₀ b cap zs hreach hb J Jx hY W hc' hB2 hcs h0

/-! ### now -/
def pickB (n : Int) (pre : List (Nat × Wr)) : Option ByteArray := (pre.find? fun p => p.2.1 == n).map fun p => p.2.2
theorem find_backs (n : Int) : ∀ (zs : List Wr), lastW n zs = ((zs.reverse.find? fun p => p.1 == n).map fun p => p.2)
  | [] => rfl
  | z :: zs => by
    show (match lastW n zs with | some t => some t | none => if z.1 = n then some z.2 else none) = _
    rw [find_backs n zs, List.reverse_cons, List.find?_append]
    rcases hf : (zs.reverse.find? fun p => p.1 == n) with _ | q
    · rw [hf]
      show (if z.1 = n then some z.2 else none) = _
      by_cases h : z.1 = n <;> simp [h]
    · rw [hf]; rfl
theorem backs_map (zs : List Wr) : (backs zs zs.length).map Prod.snd = zs.reverse := by
  apply List.ext_getElem
  · simp [backs]
  · intro i h1 h2
    simp [backs] at h1 h2 ⊢
    rw [List.getElem?_eq_getElem (by omega)]
    simp
theorem pick_backs (n : Int) (zs : List Wr) : pickB n (backs zs zs.length) = lastW n zs := by
  rw [find_backs, ← backs_map, List.find?_map]
  unfold pickB
  rcases hf : ((backs zs zs.length).find? fun p => p.2.1 == n) with _ | q
  · have : (List.find? ((fun p : Wr => p.1 == n) ∘ Prod.snd) (backs zs zs.length)) = none := hf
    rw [this, hf]; rfl
  · have : (List.find? ((fun p : Wr => p.1 == n) ∘ Prod.snd) (backs zs zs.length)) = some q := hf
    rw [this, hf]; rfl
theorem pick_prefix {n : Int} {zs : List Wr} {k : Nat} (hk : k ≤ zs.length) {ini : List (Nat × Wr)} {last : Nat × Wr} (e : backs zs k = ini ++ [last]) (hn : ∀ p ∈ ini, p.2.1 ≠ n) (hl : last.2.1 = n) : lastW n zs = some last.2.2 := by
  rw [← pick_backs]
  have hp : backs zs zs.length = ini ++ last :: ((List.range' k (zs.length - k)).map fun j => (zs.length - 1 - j, zs[zs.length - 1 - j]?.getD wr0)) := by
    have h1 : List.range zs.length = List.range k ++ List.range' k (zs.length - k) := by
      rw [List.range_eq_range', List.range_eq_range']
      have := List.range'_append (s := 0) (m := k) (n := zs.length - k) (step := 1)
      simp at this
      rw [this]; congr 1; omega
    unfold backs at e ⊢
    rw [h1, List.map_append, e, List.append_assoc]
    rfl
  rw [hp]
  unfold pickB
  rw [List.find?_append, List.find?_eq_none.2 (fun p hp => by simpa using hn p hp)]
  simp [hl]
theorem pick_none {n : Int} {zs : List Wr} (hn : ∀ p ∈ backs zs zs.length, p.2.1 ≠ n) : lastW n zs = none := by
  rw [← pick_backs]
  unfold pickB
  rw [List.find?_eq_none.2 (fun p hp => by simpa using hn p hp)]
  rfl

set_option maxRecDepth 100000 in
set_option maxHeartbeats 4000000 in
theorem now_any (x : Nat → Nat) (d0 db : Nat) (D : Dev) (N : Nat) (w : World) (n : Int) (h : DIs x d0 w db D N) (ok : D.Ok) (hn : KOK n) (hN : N < 1099511627776) :
    Calls Tryz.prog 148 #[.pointer (some ⟨db, 0, none⟩), .int .i64 n] w fun e w' => e = .returned (.string (D.now n)) ∧ Below w.heap.size w w' := by
  have H := Lib.hid h
  have OK := Lib.hid ok
  have KN := Lib.hid hn
  obtain ⟨sm, cv, m, Nm, h0, hx, hs, hm, hr, hc, h1, h2, h3⟩ := h
  have c7 : w.cell? ⟨db, 7, none⟩ = some cv := by rw [cell_of_row w db _ _ _ _ h0]; rfl
  have hI := WrIn.of_row hr
  obtain ⟨aT, cT, hcv⟩ := own_shape hr
  subst hcv
  have HI := Lib.hid hI
  have hdb : db < w.heap.size := lt_of_block h0
  clear h0 hx hs hm hr hc h1 h2 hI ok hn
  refine callsIn_wide (n := 5) |>.1 ?_
  refine callsIn_of_wp_marks Tryz.func148 rfl trivial ?_ rfl
  simp only [Tryz.ntmps148, List.size_toArray, List.length_cons, List.length_nil, Nat.reduceAdd, Nat.reduceSub, Array.replicate_succ, Array.replicate_zero, List.push_toArray, List.append_toArray, List.nil_append, List.cons_append]
  gi_wp2_with fail
  refine ⟨trivial, ?_⟩
  refine (back_in Fence.wide 4 trivial rfl _ _ _ _).mono ?_
  rintro e w' ⟨rfl, rfl⟩
  gi_wp2_with fail
  have bP := Boxed.new w 3 (.int .i64 n)
  have bR := Boxed.new (w.alloc (.cells #[.int .i64 n] 3)) 9 (.string { data := #[] })
  have bN := Boxed.new ((w.alloc (.cells #[.int .i64 n] 3)).alloc (.cells #[.string { data := #[] }] 9)) 153 (.slice aT D.cache.length cT)
  rw [World.size_alloc] at bR
  rw [World.size_alloc, World.size_alloc] at bN
  have hB0 : Below w.heap.size w (((w.alloc (.cells #[.int .i64 n] 3)).alloc (.cells #[.string { data := #[] }] 9)).alloc (.cells #[.slice aT D.cache.length cT] 153)) := (((Below.refl _ w).alloc (Nat.le_refl _) _).alloc (by simp) _).alloc (by simp; omega) _
  have hsz : (((w.alloc (.cells #[.int .i64 n] 3)).alloc (.cells #[.string { data := #[] }] 9)).alloc (.cells #[.slice aT D.cache.length cT] 153)).heap.size = w.heap.size + 3 := by simp
  have bP := (bP.alloc (.cells #[.string { data := #[] }] 9)).alloc (.cells #[.slice aT D.cache.length cT] 153)
  have bR := bR.alloc (.cells #[.slice aT D.cache.length cT] 153)
  obtain ⟨W0, hW0⟩ : ∃ W0, (((w.alloc (.cells #[.int .i64 n] 3)).alloc (.cells #[.string { data := #[] }] 9)).alloc (.cells #[.slice aT D.cache.length cT] 153)) = W0 := ⟨_, rfl⟩
  rw [hW0] at bP bR bN hB0 hsz ⊢
  clear hW0
  refine wpIn_rangeFunc_ownH rfl (by omega) (gf := 165) (lb := #[.pointer (some ⟨w.heap.size + 1 + 1, 0, none⟩)]) rfl trivial (enters_of Tryz.func165 (by kernel_rfl) rfl)
    (back_stops Fence.wide 4 trivial rfl (by omega) (w.heap.size + 1 + 1) (w.heap.size + 3) _ D.cache (by omega) W0 (by omega) (by omega) (by omega) bN.cell ?hwr) belowK_t (belowK_b (by omega)) (Below.refl _ _) (fun _ => rfl)
    (fun pre W => ((∀ p ∈ pre, (p.2.1 == n) = false) ∧ Boxed W w.heap.size 3 (.int .i64 n) ∧ Boxed W (w.heap.size + 1) 9 (.string { data := #[] }) ∧ w.heap.size + 3 ≤ W.heap.size) ∧ Below w.heap.size w W)
    (fun c pre W => (c = .ret ∧ ∃ ini last, pre = ini ++ [last] ∧ (∀ p ∈ ini, (p.2.1 == n) = false) ∧ last.2.1 = n ∧ Boxed W (w.heap.size + 1) 9 (.string last.2.2)) ∧ Below w.heap.size w W)
    (OwnFrom.and (fun s A B row hs hg hr => ⟨hs.1, Own.from (boxed_own _ _ (fun (_ : Unit) => Value.int .i64 n)) _ () A B row hs.2.1 hg hr, Own.from (boxed_own _ _ (fun (_ : Unit) => Value.string { data := #[] })) _ () A B row hs.2.2.1 hg hr, Nat.le_trans hs.2.2.2 hg.size⟩) (ownFrom_below (Nat.le_refl _) (by omega)))
    (fun c => OwnFrom.and (fun s A B row hs hg hr => by
      obtain ⟨hc, ini, last, e1, e2, e3, e4⟩ := hs
      exact ⟨hc, ini, last, e1, e2, e3, Own.from (boxed_own _ _ (fun (_ : Unit) => Value.string last.2.2)) _ () A B row e4 hg hr⟩) (ownFrom_below (Nat.le_refl _) (by omega)))
    ⟨⟨fun p hp => (by cases hp), bP, bR, by omega⟩, hB0⟩
    (fun x a' W => ∃ Bx, w.heap.size + 3 ≤ Bx ∧ (W.cell? ⟨Bx, 0, none⟩ = some (.int .i64 x.2.1) ∧ W.cell? ⟨Bx, 1, none⟩ = some (.string x.2.2)) ∧ a' = ({ tmps := #[Value.pointer (some { block := db, off := 0 }), Value.int IntKind.i64 n, undef, Value.pointer (some { block := w.heap.size, off := 0 }), Value.pointer (some { block := w.heap.size + 1, off := 0 }), undef, Value.pointer (some { block := Bx, off := 0 }), Value.pointer (some { block := db, off := 0 }), Value.pointer (some { block := db, off := 0 }), Value.pointer (some { block := db, off := 7 }), Value.slice aT D.cache.length cT, .func (.func 165) #[] #[.pointer (some ⟨w.heap.size + 1 + 1, 0, none⟩)], .int .i64 (x.1 : Int), .agg #[.int .i64 x.2.1, .string x.2.2], undef, undef, undef, undef, undef, undef, undef, undef, undef], defers := [] } : Act))
    (fun x a' _ X Y row hs hg hr => by
      obtain ⟨Bx, h1, ⟨h2, h3⟩, h4⟩ := hs
      exact ⟨Bx, h1, ⟨cell_kept h2 hg (fun r e => (hr r e).2), cell_kept h3 hg (fun r e => (hr r e).2)⟩, h4⟩)
    ?assign ?body ?done ?stop
  case hwr => exact (HI.out.below hB0).elim .inl (fun ⟨b, cap, e, hb, hc⟩ => .inr ⟨b, cap, e, by omega, hc⟩)
  case assign =>
    rintro l pre y W K ⟨⟨hp, bP1, bR1, hz1⟩, hB1⟩ hK
    unfold encB
    gi_wp2
    have hc := World.alloc_heap_new W (.cells #[Value.int IntKind.i64 y.snd.fst, Value.string y.snd.snd] 157)
    exact hK _ _ ((KeepsOthers.alloc _ _).from _) ((Below.refl _ W).alloc hz1 _) ⟨⟨hp, bP1.alloc _, bR1.alloc _, by simp; omega⟩, hB1.alloc hB1.size _⟩ ⟨W.heap.size, hz1, ⟨by rw [cell_of_row _ _ _ _ _ _ hc]; rfl, by rw [cell_of_row _ _ _ _ _ _ hc]; rfl⟩, rfl⟩
  case body =>
    rintro l pre y a' W hl ⟨r, hr⟩ ⟨⟨hp, bP1, bR1, hz1⟩, hB1⟩ ⟨Bx, hBx, ⟨hc1, hc2⟩, rfl⟩ hlt
    have cP := bP1.cell
    have cR := bR1.cell
    have fR := bR1.frozen
    by_cases hy : y.2.1 = n
    · have hyb : (y.2.1 == n) = true := beq_iff_eq.2 hy
      have HY := Lib.hid hy
      clear hy
      gi_wp2
      exact ⟨(KeepsOthers.setCell _ _ _).from _, ⟨rfl, pre, y, rfl, hp, HY.out, bR1.set _⟩, hB1.setCell (p := ⟨w.heap.size + 1, 0, none⟩) (by simp) _⟩
    · have hyb : (y.2.1 == n) = false := beq_eq_false_iff_ne.2 hy
      clear hy
      gi_wp2
      exact ⟨KeepsFrom.refl _ _, Below.refl _ _, ⟨fun p hp' => (List.mem_append.1 hp').elim (hp p) (fun e => by rw [List.mem_singleton] at e; subst e; exact hyb), bP1, bR1, hz1⟩, hB1⟩
  case done =>
    rintro dd ys W hD rfl ⟨⟨hp, bP1, bR1, hz1⟩, hB⟩ hK
    have HP := Lib.hid (pick_none (n := n) (zs := D.cache) (fun p hp' => by have := hp p hp'; exact beq_eq_false_iff_ne.1 this))
    have cP := bP1.cell
    have cR := bR1.cell
    have fR := bR1.frozen
    clear hp
    gi_wp2_with fail
    refine ⟨trivial, ?_⟩
    refine (callsIn_wide.2 (kept_any _ d0 db D N W n (H.out.below hB (x' := x) (fun _ _ => rfl)) OK.out KN.out)).mono ?_
    rintro e w2 ⟨rfl, hb2⟩
    have bR2 : Boxed w2 (w.heap.size + 1) 9 (.string { data := #[] }) := (hb2.block _ bR1.lt).trans bR1
    have hK2 : w2.heap[dd]? = some (.deferred (some [])) := (hb2.block _ (Array.getElem?_eq_some_iff.1 hK).1).trans hK
    have hB2 : Below w.heap.size w w2 := hB.trans (hb2.mono hB.size)
    have cR := bR2.cell
    have fR := bR2.frozen
    clear fR hK cP hb2
    have fR := bR2.frozen
    gi_wp2_with fail
    have hK' := (KeepsOthers.setCell w2 ⟨w.heap.size + 1, 0, none⟩ (.string (D.kept n))).same dd _ hK2 rfl
    refine ⟨by simp, .inl ⟨_, _, rfl, run_takeDeferred hK', ?_⟩⟩
    have hc5 := cell_kept (bR2.set (.string (D.kept n))).cell (grownBy_putObj' _ dd (.deferred none)) (fun r e => by cases e; exact ⟨_, hK', rfl⟩)
    refine ⟨.string (D.kept n), ?_, ?_, (hB2.setCell (p := ⟨w.heap.size + 1, 0, none⟩) (by simp) _).trans (belowK_b (w := w) (Nat.le_refl _) _ dd _ _ (by omega) hK' rfl rfl)⟩
    · simp [results, Tryz.f148, go_sem, hc5]
    · show _ = Ending.returned (Value.string ((lastW n D.cache).getD (D.kept n)))
      rw [HP.out]; rfl
  case stop =>
    rintro dd c pre W hD ⟨k, hk, hpk⟩ ⟨⟨rfl, ini, last, e1, e2, e3, bR1⟩, hB⟩ hK
    have HP := Lib.hid (pick_prefix (n := n) (zs := D.cache) hk (hpk.symm.trans e1) (fun p hp' => by have := e2 p hp'; exact beq_eq_false_iff_ne.1 this) e3)
    have cR := bR1.cell
    clear e1 e2 e3 hpk
    gi_wp2
    refine ⟨by simp, .inl ⟨_, _, rfl, run_takeDeferred hK, ?_⟩⟩
    have hc5 := cell_kept cR (grownBy_putObj' _ dd (.deferred none)) (fun r e => by cases e; exact ⟨_, hK, rfl⟩)
    refine ⟨.string last.2.2, ?_, ?_, hB.trans (belowK_b (w := w) (Nat.le_refl _) W dd _ _ (by omega) hK rfl rfl)⟩
    · simp [results, Tryz.f148, go_sem, hc5]
    · show _ = Ending.returned (Value.string ((lastW n D.cache).getD (D.kept n)))
      rw [HP.out]; rfl

end Go.Proofs.YtbgbomlmgkgkoaaGreat.dv
