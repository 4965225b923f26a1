/- sums: On, Crc: a text's sum, exactly. sums: a sum gone on with a second text is the sum of both. -/
import Derived.Test.YtbgbomlmgkgkoaaDvD
import Derived.BigQuiet
import Derived.Deep.CutRange
import Derived.Laws.BitsLemmas
namespace Go.Proofs.Ytbgbomlmgkgkoaa.st
open Go.RowKit Go.Proofs.Ytbgbomlmgkgkoaa.own Go.Proofs.Ytbgbomlmgkgkoaa.dv Go.Proofs.Ytbgbomlmgkgkoaa.po

def crcBit (d : Int) : Int := bits BinOp.xor IntKind.u32 (d / 2) (bits BinOp.and IntKind.u32 2197175160 (-bits BinOp.and IntKind.u32 d 1 % 4294967296))
def crcIter : Nat → Int → Int
  | 0, d => d
  | n + 1, d => crcBit (crcIter n d)
def crcB (c : Int) (b : Nat) : Int := crcIter 8 (bits BinOp.xor IntKind.u32 c (b : Int))
def onF (c : Int) (l : List UInt8) : Int := l.foldl (fun c b => crcB c b.toNat) c

/-- a captured number's cell, all else as it was -/
structure CB (w : World) (cb : Nat) (c : Int) (w' : World) : Prop where
  h : w'.heap[cb]? = some (.cells #[.int .u32 c] 141 (0, 0))
  g : w.grownBy w' (some cb)
  z : w'.heap.size = w.heap.size
theorem CB.refl {w : World} {cb : Nat} {c : Int} (h : w.heap[cb]? = some (.cells #[.int .u32 c] 141 (0, 0))) : CB w cb c w := ⟨h, ⟨rfl, rfl, rfl, Nat.le_refl _, fun _ _ _ => rfl⟩, rfl⟩
theorem CB.set {w w' : World} {cb : Nat} {c : Int} (h : CB w cb c w') (d : Int) : CB w cb d (w'.setCell ⟨cb, 0, none⟩ (.int .u32 d)) := by
  have g3 := grownBy_setCell_at w' cb 0 (.int .u32 d)
  refine ⟨heap_setCell_same w' cb 0 _ _ (.int .u32 d) h.h, ⟨g3.os.trans h.g.os, g3.tape.trans h.g.tape, g3.output.trans h.g.output, Nat.le_trans h.g.size g3.size, fun b hb hne => (g3.block b (by have := h.z; omega) hne).trans (h.g.block b hb hne)⟩, ?_⟩
  have : (w'.setCell ⟨cb, 0, none⟩ (.int .u32 d)).heap.size = w'.heap.size := by simp
  rw [this]; exact h.z
theorem CB.trans {w w1 w2 : World} {cb : Nat} {c d : Int} (h : CB w cb c w1) (k : CB w1 cb d w2) : CB w cb d w2 :=
  ⟨k.h, ⟨k.g.os.trans h.g.os, k.g.tape.trans h.g.tape, k.g.output.trans h.g.output, Nat.le_trans h.g.size k.g.size, fun b hb hne => (k.g.block b (by have := h.z; omega) hne).trans (h.g.block b hb hne)⟩, k.z.trans h.z⟩
theorem CB.cell {w w' : World} {cb : Nat} {c : Int} (h : CB w cb c w') : w'.cell? ⟨cb, 0, none⟩ = some (.int .u32 c) ∧ w'.frozen? ⟨cb, 0, none⟩ = false :=
  ⟨by rw [cell_of_row _ _ _ _ _ _ h.h]; rfl, frozen_of_row _ _ _ _ _ h.h⟩
theorem take_any (w : World) (cb : Nat) (c : Int) (b : Nat) (hb : b < 256) (h : w.heap[cb]? = some (.cells #[.int .u32 c] 141 (0, 0))) :
    Calls Try.prog 111 #[.int .u8 (b : Int), .pointer (some ⟨cb, 0, none⟩)] w fun e w' => e = .returned (.tuple #[]) ∧ CB w cb (crcB c b) w' := by
  have C0 := Lib.hid (CB.refl h)
  obtain ⟨k0, kf⟩ := C0.out.cell
  clear h
  go_enter Try.func111, Try.ntmps111
  go_wp2_with fail
  have C1 := Lib.hid (C0.out.set (bits BinOp.xor IntKind.u32 c (b : Int)))
  clear k0 kf C0
  go_loopw [7] (fun i wr => ∃ j : Nat, i = .int .i64 j ∧ j ≤ 8 ∧ CB w cb (crcIter j (bits BinOp.xor IntKind.u32 c (b : Int))) wr) (fun i _ => 8 - (intOf i).toNat)
  case atStart => exact ⟨0, rfl, by omega, C1.out⟩
  case round =>
    obtain ⟨j, rfl, hj, hC⟩ := hrel
    have CC := Lib.hid hC
    obtain ⟨m0, mf⟩ := hC.cell
    clear hC
    by_cases hlt : j < 8
    · obtain ⟨d, hd⟩ : ∃ d, crcIter j (bits BinOp.xor IntKind.u32 c (b : Int)) = d := ⟨_, rfl⟩
      have HD : Hid (crcIter (j + 1) (bits BinOp.xor IntKind.u32 c (b : Int)) = crcBit d) := Lib.hid (by rw [← hd]; rfl)
      rw [hd] at m0 CC
      clear hd
      have C2 := Lib.hid (CC.out.set (crcBit d))
      clear CC
      go_wp2_with fail
      go_roundw
      case rel => exact ⟨j + 1, by go_num, by omega, by rw [HD.out]; exact C2.out⟩
      case measure => simp [intOf]; omega
    · obtain rfl : j = 8 := by omega
      clear m0 mf
      go_wp2_with fail
      go_end0
      exact ⟨rfl, CC.out⟩

/-- a sum, gone on with a text -/
def notU (c : Int) : Int := bits BinOp.xor IntKind.u32 IntKind.u32.max c
theorem onF_snoc (c : Int) (l : List UInt8) (b : UInt8) : onF c (l ++ [b]) = crcB (onF c l) b.toNat := by unfold onF; rw [List.foldl_append]; rfl
def onS (c : Int) (l : List UInt8) : Int := notU (onF (notU c) l)

set_option maxRecDepth 100000 in
theorem On_any (w : World) (c : Int) (s : ByteArray) (hs : s.size ≤ 1099511627776) :
    Calls Try.prog 75 #[.int .u32 c, .string s] w fun e w' => e = .returned (.int .u32 (onS c s.data.toList)) ∧ Below w.heap.size w w' := by
  have k0 : (w.alloc (.cells #[.int .u32 c] 141)).cell? ⟨w.heap.size, 0, none⟩ = some (.int .u32 c) := by rw [cell_of_row _ _ _ _ _ _ (World.alloc_heap_new w (.cells #[.int .u32 c] 141))]; rfl
  have hcv := fun W : World => run_bytes_of_string (P := Try.prog) W 9 72 5 s Try.underlying9 Try.underlying72 Try.underlying5
  go_enter Try.func75, Try.ntmps75
  go_wp2_with fail
  clear k0 hcv
  obtain ⟨gc, hgc⟩ : ∃ gc, grownCap (w.alloc (.cells #[.int .u32 (bits BinOp.xor IntKind.u32 IntKind.u32.max c)] 141)) s.size 0 5 = gc := ⟨_, rfl⟩
  have hgl : s.size ≤ gc := by rw [← hgc]; exact grownCap_ge _ _ _ _
  rw [hgc]
  clear hgc
  change Code.wp _ _ _ _ ((World.alloc (w.alloc (Obj.cells #[Value.int IntKind.u32 (notU c)] 141)) _).drew)
  have hb1 : Below w.heap.size w (w.alloc (.cells #[.int .u32 (notU c)] 141)) := (Below.refl _ w).alloc (Nat.le_refl _) _
  have g1 := World.alloc_heap_new w (.cells #[.int .u32 (notU c)] 141)
  have z1 : (w.alloc (.cells #[.int .u32 (notU c)] 141)).heap.size = w.heap.size + 1 := by simp
  rw [← z1]
  have Z1 := Lib.hid z1
  clear z1
  generalize w.alloc (Obj.cells #[Value.int IntKind.u32 (notU c)] 141) = W1 at hb1 g1 Z1 ⊢
  have BR2 : Hid (BR ((W1.alloc (.cells (bytesRow s gc) 5 ((bytesRow s gc).size, (bytesRow s gc).size + 1))).drew) W1.heap.size s.data.toList) := Lib.hid (BR.made W1 s gc 5)
  have hb2 : Below W1.heap.size W1 ((W1.alloc (.cells (bytesRow s gc) 5 ((bytesRow s gc).size, (bytesRow s gc).size + 1))).drew) := ((Below.refl _ W1).alloc (Nat.le_refl _) _).drew
  have B2 := Lib.hid (hb1.trans (hb2.mono (by have := Z1.out; omega)))
  have C2 := Lib.hid (CB.refl ((hb2.block _ (lt_of_block g1)).trans g1))
  have hzz : W1.heap.size < ((W1.alloc (.cells (bytesRow s gc) 5 ((bytesRow s gc).size, (bytesRow s gc).size + 1))).drew).heap.size := by show W1.heap.size < (W1.heap.push _).size; simp
  have HZZ := Lib.hid hzz
  clear hb1 g1 hb2 hzz
  generalize (W1.alloc _).drew = W2 at BR2 B2 C2 HZZ ⊢
  generalize hg2 : W1.heap.size = g2 at BR2 Z1 HZZ ⊢
  clear hg2
  go_loopw [14] (fun i wr => ∃ k : Nat, i = .int .i64 k ∧ k ≤ s.size ∧ CB W2 w.heap.size (onF (notU c) (s.data.toList.take k)) wr) (fun i _ => s.size - (intOf i).toNat)
  case atStart => exact ⟨0, rfl, by omega, by rw [List.take_zero]; exact C2.out⟩
  case round =>
    obtain ⟨k, rfl, hk, hC⟩ := hrel
    have CC := Lib.hid hC
    have hl : s.data.toList.length = s.size := Array.length_toList
    by_cases hlt : k < s.size
    · have hbr : BR wr g2 s.data.toList := BR2.out.same (hC.g.block g2 (by have := HZZ.out; omega) (fun e => by have := Option.some.inj e; have := Z1.out; omega))
      obtain ⟨hb, -⟩ := hbr k (by omega)
      have HS : Hid (s.data.toList.take (k + 1) = s.data.toList.take k ++ [s.data.toList[k]]) := Lib.hid (List.take_succ_eq_append_getElem (by omega))
      obtain ⟨b, hbb⟩ : ∃ b, s.data.toList[k]'(by omega) = b := ⟨_, rfl⟩
      rw [hbb] at hb HS
      clear hbb hbr hC
      go_wp2_with fail
      refine (take_any wr w.heap.size _ b.toNat b.toNat_lt CC.out.h).mono ?_
      rintro e w3 ⟨rfl, c3⟩
      have C3 : Hid (CB W2 w.heap.size (onF (notU c) (s.data.toList.take (k + 1))) w3) := Lib.hid (by rw [HS.out, onF_snoc]; exact CC.out.trans c3)
      clear c3
      go_wp2_with fail
      go_roundw
      case rel => exact ⟨k + 1, by go_num, by omega, C3.out⟩
      case measure => simp [intOf]; omega
    · obtain rfl : k = s.size := by omega
      rw [List.take_of_length_le (by omega)] at CC
      obtain ⟨m0, mf⟩ := CC.out.cell
      clear hC
      go_wp2_with fail
      go_ret
      exact ⟨rfl, B2.out.grown CC.out.g (by have := B2.out.size; omega) (fun k hk => by have := Option.some.inj hk; omega)⟩
theorem Crc_any (w : World) (s : ByteArray) (hs : s.size ≤ 1099511627776) :
    Calls Try.prog 70 #[.string s] w fun e w' => e = .returned (.int .u32 (onS 0 s.data.toList)) ∧ Below w.heap.size w w' := by
  go_enter Try.func70, Try.ntmps70
  go_wp2_with fail
  refine (On_any w 0 s hs).mono ?_
  rintro e w1 ⟨rfl, hb⟩
  have B := Lib.hid hb
  clear hb
  go_wp2_with fail
  go_ret
  exact ⟨rfl, B.out⟩

end Go.Proofs.Ytbgbomlmgkgkoaa.st

namespace Go.Proofs.Ytbgbomlmgkgkoaa.st
open Go

/-- a number of 32 bits -/
def U32 (c : Int) : Prop := 0 ≤ c ∧ c < 4294967296
theorem wrap_U32 {c : Int} (h : U32 c) : IntKind.u32.wrap c = c := by rw [IntKind.wrap_u32]; have h1 := h.1; have h2 := h.2; omega
theorem xor_nat (a b : Nat) (ha : a < 4294967296) (hb : b < 4294967296) : bits BinOp.xor IntKind.u32 a b = ((a ^^^ b : Nat) : Int) := by
  have ha' : a % 4294967296 = a := Nat.mod_eq_of_lt ha
  have hb' : b % 4294967296 = b := Nat.mod_eq_of_lt hb
  have hx : a ^^^ b < 4294967296 := Nat.xor_lt_two_pow (n := 32) ha hb
  have hk : (2 : Nat) ^ IntKind.u32.bits = 4294967296 := by decide
  simp only [bits, BitVec.ofInt_natCast, BitVec.toNat_xor, BitVec.toNat_ofNat, hk, ha', hb']
  exact wrap_U32 ⟨Int.natCast_nonneg _, by omega⟩
theorem xor_U32 {a b : Int} (ha : U32 a) (hb : U32 b) : U32 (bits BinOp.xor IntKind.u32 a b) := by
  obtain ⟨x, rfl⟩ := Int.eq_ofNat_of_zero_le ha.1
  obtain ⟨y, rfl⟩ := Int.eq_ofNat_of_zero_le hb.1
  have h1 := ha.2
  have h2 := hb.2
  show U32 (bits BinOp.xor IntKind.u32 (x : Int) (y : Int))
  rw [xor_nat x y (by omega) (by omega)]
  have hx : x ^^^ y < 4294967296 := Nat.xor_lt_two_pow (n := 32) (by omega) (by omega)
  exact ⟨by omega, by omega⟩
theorem and_U32 {a b : Int} (ha : U32 a) (hb : U32 b) : U32 (bits BinOp.and IntKind.u32 a b) := by
  obtain ⟨x, rfl⟩ := Int.eq_ofNat_of_zero_le ha.1
  obtain ⟨y, rfl⟩ := Int.eq_ofNat_of_zero_le hb.1
  have h1 := ha.2
  have h2 := hb.2
  show U32 (bits BinOp.and IntKind.u32 (x : Int) (y : Int))
  rw [(bits_nat IntKind.u32 32 (by decide) (fun n h0 h1 => wrap_U32 ⟨h0, by simpa using h1⟩) x y (by omega) (by omega)).1]
  have hx : x &&& y ≤ x := Nat.and_le_left
  exact ⟨by omega, by omega⟩
theorem crcBit_U32 {d : Int} (h : U32 d) : U32 (crcBit d) := by
  have h1 := h.1
  have h2 := h.2
  refine xor_U32 ⟨by omega, by omega⟩ (and_U32 ⟨by decide, by decide⟩ ⟨Int.emod_nonneg _ (by decide), Int.emod_lt_of_pos _ (by decide)⟩)
theorem crcIter_U32 {d : Int} (h : U32 d) : ∀ n, U32 (crcIter n d)
  | 0 => h
  | n + 1 => crcBit_U32 (crcIter_U32 h n)
theorem crcB_U32 {c : Int} (h : U32 c) (b : UInt8) : U32 (crcB c b.toNat) := crcIter_U32 (xor_U32 h ⟨by omega, by have := b.toNat_lt; omega⟩) 8
theorem onF_U32 : ∀ (l : List UInt8) {c : Int}, U32 c → U32 (onF c l)
  | [], _, h => h
  | b :: l, _, h => onF_U32 l (crcB_U32 h b)
theorem notU_U32 {c : Int} (h : U32 c) : U32 (notU c) := xor_U32 ⟨by decide, by decide⟩ h
theorem notU_notU {c : Int} (h : U32 c) : notU (notU c) = c := by
  obtain ⟨x, rfl⟩ := Int.eq_ofNat_of_zero_le h.1
  have h2 := h.2
  have hm : IntKind.u32.max = ((4294967295 : Nat) : Int) := by decide
  unfold notU
  show bits BinOp.xor IntKind.u32 IntKind.u32.max (bits BinOp.xor IntKind.u32 IntKind.u32.max (x : Int)) = (x : Int)
  have hx : 4294967295 ^^^ x < 4294967296 := Nat.xor_lt_two_pow (n := 32) (by decide) (by omega)
  rw [hm, xor_nat 4294967295 x (by decide) (by omega), xor_nat 4294967295 _ (by decide) hx, ← Nat.xor_assoc, Nat.xor_self, Nat.zero_xor]
theorem onS_append (a b : List UInt8) : onS (onS 0 a) b = onS 0 (a ++ b) := by
  have h0 : U32 0 := ⟨by decide, by decide⟩
  unfold onS
  rw [notU_notU (onF_U32 a (notU_U32 h0))]
  unfold onF
  rw [List.foldl_append]

end Go.Proofs.Ytbgbomlmgkgkoaa.st
