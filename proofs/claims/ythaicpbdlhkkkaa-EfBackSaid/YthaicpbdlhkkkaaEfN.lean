/- ef: Next: sort.Search over a closure that tells what went bad. -/
import Derived.BigQuiet
import Derived.Test.YthaicpbdlhkkkaaEfL
namespace Go.Proofs.Ythaicpbdlhkkkaa.ef
open Go.RowKit Go.Proofs.Ythaicpbdlhkkkaa.own Go.Proofs.Ythaicpbdlhkkkaa.bit

/-- the number i, 0 where the bytes tell none -/
def gv (s : List Nat) (i : Nat) : Nat := (getS s i).getD 0
theorem gv_lt {s : List Nat} (ho : opens s) (i : Nat) : gv s i < 18446744073709551616 := by
  unfold gv
  cases h : getS s i with
  | none => simp
  | some v =>
    have := getS_lt h
    have := ho.2.2.1
    simp
    omega

/-- on the way through the search: the list, what was asked, what went bad -/
structure NS (w : World) (pb vb bb xb v : Nat) (s : ByteArray) (w' : World) : Prop where
  ls : LsC w' xb s
  px : w'.heap[pb]? = some (.cells #[.pointer (some ⟨xb, 0, none⟩)] 59 (0, 0))
  vx : w'.heap[vb]? = some (.cells #[.int .u64 (v : Int)] 62 (0, 0))
  bx : ∃ b : Nat, w'.heap[bb]? = some (.cells #[.int .i64 (b : Int)] 23 (0, 0)) ∧ (b = 0 ∨ b = 4 ∧ ∃ i, i < nS (nats s) ∧ getS (nats s) i = none)
  kp : Keeps w w' (fun b => b = bb)
theorem NS.next {w w' w2 : World} {pb vb bb xb v : Nat} {s : ByteArray} (h : NS w pb vb bb xb v s w') (k : Below w'.heap.size w' w2) : NS w pb vb bb xb v s w2 := by
  obtain ⟨b, h1, h2⟩ := h.bx
  exact ⟨h.ls.below k, (k.block _ (lt_of_block h.px)).trans h.px, (k.block _ (lt_of_block h.vx)).trans h.vx, ⟨b, (k.block _ (lt_of_block h1)).trans h1, h2⟩,
    ⟨k.os.trans h.kp.os, k.tape.trans h.kp.tape, k.output.trans h.kp.output, Nat.le_trans h.kp.size k.size, fun b hb hS => (k.block b (Nat.lt_of_lt_of_le hb h.kp.size)).trans (h.kp.block b hb hS)⟩⟩
theorem NS.store {w w' : World} {pb vb bb xb v : Nat} {s : ByteArray} (h : NS w pb vb bb xb v s w') (hp : pb ≠ bb) (hv : vb ≠ bb) (hx : xb ≠ bb) (hbad : ∃ i, i < nS (nats s) ∧ getS (nats s) i = none) :
    NS w pb vb bb xb v s (w'.setCell ⟨bb, 0, none⟩ (.int .i64 4)) := by
  have hk : ∀ b, b ≠ bb → (w'.setCell ⟨bb, 0, none⟩ (.int .i64 4)).heap[b]? = w'.heap[b]? := fun b hb => Below.heap_setCell w' ⟨bb, 0, none⟩ _ b hb
  obtain ⟨b, h1, h2⟩ := h.bx
  refine ⟨(hk _ hx).trans h.ls, (hk _ hp).trans h.px, (hk _ hv).trans h.vx, ⟨4, ?_, .inr ⟨rfl, hbad⟩⟩, h.kp.setCell (.inl rfl) _⟩
  rw [heap_setCell_same w' bb 0 _ _ _ h1]; rfl

set_option maxRecDepth 100000 in
set_option maxHeartbeats 1600000 in
theorem next1_any (s : ByteArray) (hs : s.size ≤ maxLen) (ho : opens (nats s)) (i pb vb bb xb v : Nat) (w0 w : World) (hi : i < nS (nats s)) (hp : pb ≠ bb) (hv : vb ≠ bb) (hx : xb ≠ bb)
    (h : NS w0 pb vb bb xb v s w) :
    Calls Try.prog 61 #[.int .i64 (i : Int), .pointer (some ⟨pb, 0, none⟩), .pointer (some ⟨bb, 0, none⟩), .pointer (some ⟨vb, 0, none⟩)] w fun e w' => e = .returned (.bool (decide (v ≤ gv (nats s) i))) ∧ NS w0 pb vb bb xb v s w' := by
  have GT := Lib.hid (fun W hW => get_in s hs ho i xb W hi hW)
  have cp : w.cell? ⟨pb, 0, none⟩ = some (.pointer (some ⟨xb, 0, none⟩)) := by rw [cell_of_row _ _ _ _ _ _ h.px]; rfl
  have HNS := Lib.hid h
  have hgl := gv_lt ho i
  unfold gv at hgl ⊢
  have hsome : Hid (∀ G, getS (nats s) i = G → G = none → ∃ i, i < nS (nats s) ∧ getS (nats s) i = none) := Lib.hid (fun G h1 h2 => ⟨i, hi, by rw [h1, h2]⟩)
  have hGG : Hid (getS (nats s) i = getS (nats s) i) := Lib.hid rfl
  generalize hG : getS (nats s) i = G at GT hgl ⊢
  have HG := Lib.hid hG
  clear h ho hi hG
  go_enter Try.func61, Try.ntmps61
  go_wp2_with fail
  refine (GT.out _ HNS.out.ls).mono ?_
  rintro e w2 ⟨rfl, k2⟩
  have N2 := HNS.out.next k2
  have cv : w2.cell? ⟨vb, 0, none⟩ = some (.int .u64 (v : Int)) := by rw [cell_of_row _ _ _ _ _ _ N2.vx]; rfl
  cases G with
  | none =>
    obtain ⟨b, hb1, hb2⟩ := N2.bx
    have cb : w2.cell? ⟨bb, 0, none⟩ = some (.int .i64 (b : Int)) := by rw [cell_of_row _ _ _ _ _ _ hb1]; rfl
    have fb : w2.frozen? ⟨bb, 0, none⟩ = false := frozen_of_row _ _ 0 _ _ hb1
    have N3 := Lib.hid (NS.store N2 hp hv hx (hsome.out _ HG.out rfl))
    have c3 : (w2.setCell ⟨bb, 0, none⟩ (.int .i64 4)).cell? ⟨vb, 0, none⟩ = some (.int .u64 (v : Int)) := by rw [cell_of_row _ _ _ _ _ _ N3.out.vx]; rfl
    clear hb1 hb2 N2 k2
    go_wp2_with fail
    go_ret
    exact ⟨by simp, N3.out⟩
  | some g =>
    have N3 := Lib.hid N2
    clear N2 k2
    go_wp2_with fail
    go_ret
    exact ⟨by simp, N3.out⟩

theorem NS.start (w : World) (xb v : Nat) (s : ByteArray) (h : LsC w xb s) :
    NS w w.heap.size (w.heap.size + 1) (w.heap.size + 1 + 1) xb v s
      (((w.alloc (.cells #[.pointer (some ⟨xb, 0, none⟩)] 59)).alloc (.cells #[.int .u64 (v : Int)] 62)).alloc (.cells #[.int .i64 0] 23)) := by
  have hx := lt_of_block h
  have k1 := heap_alloc_new w (.cells #[.pointer (some ⟨xb, 0, none⟩)] 59)
  have k2 : (w.alloc (.cells #[.pointer (some ⟨xb, 0, none⟩)] 59)).heap.size = w.heap.size + 1 := by simp
  have kp : Below w.heap.size w (w.alloc (.cells #[.pointer (some ⟨xb, 0, none⟩)] 59)) := (Below.refl _ _).alloc (Nat.le_refl _) _
  generalize w.alloc (.cells #[.pointer (some ⟨xb, 0, none⟩)] 59) = w1 at k1 k2 kp ⊢
  have j1 := heap_alloc_new w1 (.cells #[.int .u64 (v : Int)] 62)
  have j2 : (w1.alloc (.cells #[.int .u64 (v : Int)] 62)).heap.size = w1.heap.size + 1 := by simp
  have j3 : (w1.alloc (.cells #[.int .u64 (v : Int)] 62)).heap[w.heap.size]? = some (.cells #[.pointer (some ⟨xb, 0, none⟩)] 59 (0, 0)) := (Below.heap_alloc _ _ _ (lt_of_block k1)).trans k1
  have jp : Below w.heap.size w (w1.alloc (.cells #[.int .u64 (v : Int)] 62)) := kp.alloc (by omega) _
  generalize w1.alloc (.cells #[.int .u64 (v : Int)] 62) = w2 at j1 j2 j3 jp ⊢
  have m1 := heap_alloc_new w2 (.cells #[.int .i64 0] 23)
  have m2 : (w2.alloc (.cells #[.int .i64 0] 23)).heap[w.heap.size]? = some (.cells #[.pointer (some ⟨xb, 0, none⟩)] 59 (0, 0)) := (Below.heap_alloc _ _ _ (lt_of_block j3)).trans j3
  have m3 : (w2.alloc (.cells #[.int .i64 0] 23)).heap[w1.heap.size]? = some (.cells #[.int .u64 (v : Int)] 62 (0, 0)) := (Below.heap_alloc _ _ _ (lt_of_block j1)).trans j1
  have mp : Below w.heap.size w (w2.alloc (.cells #[.int .i64 0] 23)) := jp.alloc (by omega) _
  rw [k2] at m3 j2
  rw [j2] at m1
  exact ⟨(mp.block xb hx).trans h, m2, m3, ⟨0, m1, .inl rfl⟩, mp.os, mp.tape, mp.output, mp.size, fun b hb _ => mp.block b hb⟩

def SearchPost (s : ByteArray) (v : Nat) (k : Nat) : Prop := k ≤ nS (nats s) ∧ (k < nS (nats s) → v ≤ gv (nats s) k) ∧ (0 < k → gv (nats s) (k - 1) < v)

set_option maxRecDepth 100000 in
set_option maxHeartbeats 1600000 in
theorem search_any (s : ByteArray) (hs : s.size ≤ maxLen) (ho : opens (nats s)) (pb vb bb xb v : Nat) (w0 w : World) (hp : pb ≠ bb) (hv : vb ≠ bb) (hx : xb ≠ bb) (h : NS w0 pb vb bb xb v s w) :
    Calls Try.prog 60 #[.int .i64 ((nS (nats s) : Nat) : Int), .func (Fn.func 61) #[] #[.pointer (some ⟨pb, 0, none⟩), .pointer (some ⟨bb, 0, none⟩), .pointer (some ⟨vb, 0, none⟩)]] w
      fun e w' => ∃ k : Nat, e = .returned (.int .i64 (k : Int)) ∧ SearchPost s v k ∧ NS w0 pb vb bb xb v s w' := by
  have NX := Lib.hid (fun (i : Nat) (W : World) hi hW => next1_any s hs ho i pb vb bb xb v w0 W hi hp hv hx hW)
  have HNS := Lib.hid h
  have hn := ho.2.1
  unfold SearchPost
  generalize nS (nats s) = n at *
  clear h
  go_enter Try.func60, Try.ntmps60
  go_wp2_with fail
  go_loopw [5, 6] (fun iv jv wr => ∃ i j : Nat, iv = .int .i64 (i : Int) ∧ jv = .int .i64 (j : Int) ∧ i ≤ j ∧ j ≤ n ∧ (j < n → v ≤ gv (nats s) j) ∧ (0 < i → gv (nats s) (i - 1) < v) ∧ NS w0 pb vb bb xb v s wr)
    (fun iv jv _ => (intOf jv).toNat - (intOf iv).toNat)
  case atStart => exact ⟨0, n, rfl, rfl, Nat.zero_le _, Nat.le_refl _, fun h => absurd h (Nat.lt_irrefl _), fun h => absurd h (Nat.lt_irrefl _), HNS.out⟩
  case round =>
    obtain ⟨i, j, rfl, rfl, hij, hjn, hJ, hI, hns⟩ := hrel
    have HJ := Lib.hid hJ
    have HI := Lib.hid hI
    have HN := Lib.hid hns
    clear hJ hI hns
    by_cases hlt : i < j
    · obtain ⟨m, hm⟩ : ∃ m, (i + j) / 2 = m := ⟨_, rfl⟩
      have hmi : i ≤ m := by omega
      have hmj : m < j := by omega
      have M1 : ((i : Int) + (j : Int)) / 2 = (m : Int) := by omega
      have CM := Lib.hid (fun W => NX.out m W (by omega))
      clear hm
      go_wp2_with fail
      refine (CM.out _ HN.out).mono ?_
      rintro e w2 ⟨rfl, n2⟩
      by_cases hvg : v ≤ gv (nats s) m
      · rw [decide_eq_true hvg]
        have HV := Lib.hid hvg
        clear hvg
        go_wp2_with fail
        go_roundw
        case rel => exact ⟨i, m, rfl, rfl, hmi, by omega, fun _ => HV.out, HI.out, n2⟩
        case measure => simp [intOf]; try omega
      · rw [decide_eq_false hvg]
        have HV := Lib.hid hvg
        clear hvg
        go_wp2_with fail
        go_roundw
        case rel => exact ⟨m + 1, j, by go_num, rfl, by omega, hjn, HJ.out, fun _ => by have := HV.out; simp only [Nat.add_sub_cancel]; omega, n2⟩
        case measure => simp [intOf]; try omega
    · obtain rfl : i = j := by omega
      go_wp2_with fail
      go_ret
      exact ⟨i, rfl, ⟨hjn, HJ.out, HI.out⟩, HN.out⟩

def NextPost (s : ByteArray) (v : Nat) (w : World) (e : Ending) (w' : World) : Prop :=
  Below w.heap.size w w' ∧ ((∃ k : Nat, e = .returned (.tuple #[.int .i64 (k : Int), .int .i64 0]) ∧ SearchPost s v k) ∨ (e = .returned (.tuple #[.int .i64 0, .int .i64 4]) ∧ ∃ i, i < nS (nats s) ∧ getS (nats s) i = none))

set_option maxRecDepth 100000 in
set_option maxHeartbeats 1600000 in
theorem next_any (s : ByteArray) (hs : s.size ≤ maxLen) (ho : opens (nats s)) (xb v : Nat) (w : World) (h : LsC w xb s) :
    Calls Try.prog 32 #[.pointer (some ⟨xb, 0, none⟩), .int .u64 (v : Int)] w (NextPost s v w) := by
  have hxb := lt_of_block h
  have HL := Lib.hid h
  clear h
  go_enter Try.func32, Try.ntmps32
  go_upto_region 4 with fail
  have N0 := NS.start w xb v s HL.out
  obtain ⟨sz, hsz⟩ : ∃ k, w.heap.size = k := ⟨_, rfl⟩
  rw [hsz] at hxb N0 ⊢
  have HSZ := Lib.hid hsz
  clear hsz
  generalize World.alloc _ _ = W0 at N0 ⊢
  have c1 : W0.cell? ⟨sz, 0, none⟩ = some (.pointer (some ⟨xb, 0, none⟩)) := by rw [cell_of_row _ _ _ _ _ _ N0.px]; rfl
  have c2 : W0.cell? ⟨xb, 0, none⟩ = some (.int .i64 ((nS (nats s) : Nat) : Int)) := by rw [cell_of_row _ _ _ _ _ _ N0.ls]; rfl
  have SE := Lib.hid (search_any s hs ho sz (sz + 1) (sz + 1 + 1) xb v w W0 (by omega) (by omega) (by omega) N0)
  clear N0 HL
  unfold NextPost
  go_wp2_with fail
  refine SE.out.mono ?_
  rintro e w2 ⟨k, rfl, hsp, hn⟩
  have KB : Hid (Below w.heap.size w w2) := Lib.hid ⟨hn.kp.os, hn.kp.tape, hn.kp.output, hn.kp.size, fun b hb => hn.kp.block b hb (by have := HSZ.out; omega)⟩
  obtain ⟨b, hb1, hb2⟩ := hn.bx
  have cb : w2.cell? ⟨sz + 1 + 1, 0, none⟩ = some (.int .i64 (b : Int)) := by rw [cell_of_row _ _ _ _ _ _ hb1]; rfl
  have HSP := Lib.hid hsp
  clear hsp hn hb1 SE
  rcases hb2 with rfl | ⟨rfl, hbad⟩
  · go_wp2_with fail
    go_ret2
    exact ⟨KB.out, .inl ⟨k, rfl, HSP.out⟩⟩
  · have HBD := Lib.hid hbad
    clear hbad
    go_wp2_with fail
    go_region
    go_wp2_with fail
    go_ret2
    exact ⟨KB.out.drew, .inr ⟨rfl, HBD.out⟩⟩
end Go.Proofs.Ythaicpbdlhkkkaa.ef
