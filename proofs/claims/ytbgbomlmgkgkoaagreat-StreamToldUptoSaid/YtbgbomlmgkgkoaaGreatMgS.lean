/- vector: a space of any number of blocks, by what its blocks have. sums: On, Crc: a text's sum, exactly. sums: a sum gone on with a second text is the sum of both. sums: a byte of a text that is another one turns its sum. stream: a space as what its blocks have; a writer in memory; small functions; put. stream: a writer in memory; put. stream: Create. Append onto an owned row of one-cell elements, of whatever is appended (a list, a string, a number of noughts): what is owned then, and where. stream: Room, Write. stream: Write. stream: a Write that is refused; Close. stream: the plain law of what is read; number; Open; Length. stream: the library's text builder; ReadAt. -/
import Derived.Test.YtbgbomlmgkgkoaaGreatPoM
import Derived.Deep.RegionHeld3
import Derived.Test.YtbgbomlmgkgkoaaGreatDvD
import Derived.BigQuiet
import Derived.Deep.CutRange
import Derived.Laws.BitsLemmas
import Derived.StillTailTactics
import Derived.Deep.CutBlock
import Derived.Laws.EntriesVeiled
import Derived.Test.YtbgbomlmgkgkoaaGreatEvC
import Derived.Test.YtbgbomlmgkgkoaaGreatOwn
import Derived.Laws.CopyRow
import Derived.Lib.ConvBytes
import Derived.Shelf.RegionOpenPlain
import Derived.Lib.Walk
import Derived.Lib.Builder
import Derived.Lib.UnsafeStr
import Derived.WalkKit
import Derived.Laws.Externs
namespace Go.Proofs.YtbgbomlmgkgkoaaGreat.vc
open Go.RowKit Go.Proofs.YtbgbomlmgkgkoaaGreat.own Go.Proofs.YtbgbomlmgkgkoaaGreat.dv Go.Proofs.YtbgbomlmgkgkoaaGreat.po Go.Proofs.YtbgbomlmgkgkoaaGreat.arcI

theorem fetch_pin (s : Sp) (D : Dev) (no : Int) (whole : Bool) : (fetchS s D no whole).1.1.pinned = s.pinned ∧ (fetchS s D no whole).1.1.most = s.most := by
  unfold fetchS
  split
  · split
    · exact ⟨rfl, rfl⟩
    · unfold missS goneS
      rcases (touchS s.arc no).2.2.1 with _ | g
      · exact ⟨rfl, rfl⟩
      · show (evictS _ D g).1.pinned = _ ∧ (evictS _ D g).1.most = _
        unfold evictS
        split <;> exact ⟨rfl, rfl⟩
  · exact ⟨rfl, rfl⟩

/-- what holds of a space between two calls: no page is pinned, and none was -/
structure VInv (s : Sp) (D : Dev) (m nb : Nat) : Prop where
  ok : SpOk s D
  nb : D.nb = nb
  ns : D.ns = m
  pins : ∀ k, s.arc.pins k = 0
  pinned : s.pinned = 0
  most : s.most = 0
theorem VInv.free {s : Sp} {D : Dev} {m nb : Nat} (h : VInv s D m nb) (no : Int) : (touchS s.arc no).2.2.2 = 0 := touch_free h.ok.arc h.pins no
theorem VInv.read {s : Sp} {D : Dev} {m nb : Nat} (h : VInv s D m nb) {no : Int} (h0 : 0 ≤ no) (h1 : no < nb) : VInv (fetchS s D no false).1.1 (fetchS s D no false).1.2 m nb ∧ ∀ k, cont (fetchS s D no false).1.1 (fetchS s D no false).1.2 k = cont s D k := by
  have h1' : no < D.nb := by rw [h.nb]; exact h1
  have he := h.free no
  obtain ⟨-, a1, -, -, -, a5, a6, -, -⟩ := fetch_ok s D no false h.ok h0 h1' (fetch_err s D no false he)
  exact ⟨⟨read_ok h.ok h0 h1' he, a5.trans h.nb, a6.trans h.ns, fun k => by rw [a1]; exact h.pins k, (fetch_pin s D no false).1.trans h.pinned, (fetch_pin s D no false).2.trans h.most⟩, cont_read h.ok h0 h1' he⟩
theorem VInv.write {s : Sp} {D : Dev} {m nb : Nat} (h : VInv s D m nb) {no : Int} {u : ByteArray} (h0 : 0 ≤ no) (h1 : no < nb) (hu : u.size = D.size) : VInv (setPg (fetchS s D no true).1.1 no ⟨u, true, s.arc.pins no⟩) (fetchS s D no true).1.2 m nb ∧ ∀ k, cont (setPg (fetchS s D no true).1.1 no ⟨u, true, s.arc.pins no⟩) (fetchS s D no true).1.2 k = if k = no then u else cont s D k := by
  have h1' : no < D.nb := by rw [h.nb]; exact h1
  have he := h.free no
  obtain ⟨-, a1, -, -, -, a5, a6, -, -⟩ := fetch_ok s D no true h.ok h0 h1' (fetch_err s D no true he)
  exact ⟨⟨write_ok h.ok h0 h1' he hu, a5.trans h.nb, a6.trans h.ns, fun k => by show (fetchS s D no true).1.1.arc.pins k = 0; rw [a1]; exact h.pins k, (fetch_pin s D no true).1.trans h.pinned, (fetch_pin s D no true).2.trans h.most⟩, cont_write h.ok h0 h1' he⟩

def VV (x : Nat → Nat) (c0 d0 : Nat) (w : World) (sb db eb N m nb : Nat) (V : Int → ByteArray) : Prop := ∃ A D, SIs x c0 d0 w sb db eb A D N ∧ VInv A D m nb ∧ ∀ k, cont A D k = V k
theorem VV.frame {x x' : Nat → Nat} {C : Nat → Prop} {c0 d0 : Nat} {w w' : World} {sb db eb N m nb : Nat} {V : Int → ByteArray} (h : VV x c0 d0 w sb db eb N m nb V) (hf : Fr x x' C w w') (hC : ∀ e, PD c0 d0 e → ¬ C e) : VV x' c0 d0 w' sb db eb N m nb V := by
  obtain ⟨A, D, h1, h2, h3⟩ := h; exact ⟨A, D, h1.frame hf hC, h2, h3⟩
theorem VV.mono {x : Nat → Nat} {c0 d0 : Nat} {w : World} {sb db eb N N' m nb : Nat} {V : Int → ByteArray} (h : VV x c0 d0 w sb db eb N m nb V) (hN : N ≤ N') : VV x c0 d0 w sb db eb N' m nb V := by
  obtain ⟨A, D, h1, h2, h3⟩ := h; exact ⟨A, D, h1.mono hN, h2, h3⟩
theorem VV.size {x : Nat → Nat} {c0 d0 : Nat} {w : World} {sb db eb N m nb : Nat} {V : Int → ByteArray} (h : VV x c0 d0 w sb db eb N m nb V) : 1 ≤ m ∧ m ≤ 8 := by
  obtain ⟨A, D, h1, h2, h3⟩ := h
  have := h2.ok.dev.sectors
  rw [h2.ns] at this; exact this
theorem VV.text {x : Nat → Nat} {c0 d0 : Nat} {w : World} {sb db eb N m nb : Nat} {V : Int → ByteArray} (h : VV x c0 d0 w sb db eb N m nb V) (k : Int) : (V k).size = 512 * m := by
  obtain ⟨A, D, h1, h2, h3⟩ := h
  rw [← h3 k]
  unfold arcI.cont
  have e : D.size = 512 * m := by unfold Dev.size; rw [h2.ns]
  rcases hp : A.pg k with _ | p
  · show (D.now k).size = _
    rw [h2.ok.dev.now, e]
  · show p.text.size = _
    rw [h2.ok.text k p hp, e]
theorem VV.write {x : Nat → Nat} {c0 d0 : Nat} {w : World} {sb db eb N m nb : Nat} {V : Int → ByteArray} (h : VV x c0 d0 w sb db eb N m nb V) (hcd : c0 + 9 < d0 ∨ d0 + 2 < c0) {no : Int} (h0 : 0 ≤ no) (h1 : no < nb) {u : ByteArray} (hu : u.size = 512 * m) (hN : N + 8 < 1099511627776) :
    Calls Tryz.prog 83 #[.pointer (some ⟨sb, 0, none⟩), .int .i64 no, .string u] w fun e w' => e = .returned (.int .i64 0) ∧ ∃ x', Fr x x' (PC c0 d0) w w' ∧ VV x' c0 d0 w' sb db eb (N + 8) m nb (fun k => if k = no then u else V k) := by
  obtain ⟨A, D, hS, hI, hV⟩ := h
  have hus : u.size = D.size := by rw [hu]; unfold Dev.size; rw [hI.ns]
  have I := hI.write h0 h1 hus
  refine (SWrite_any x c0 d0 sb db eb A D N w no u hS hI.ok hcd h0 (by rw [hI.nb]; exact h1) hN hus (hI.free no)).mono ?_
  rintro e w' ⟨rfl, x', f, s⟩
  exact ⟨rfl, x', f, _, _, s, I.1, fun k => by rw [I.2 k, hV k]⟩
theorem VV.read {x : Nat → Nat} {c0 d0 : Nat} {w : World} {sb db eb N m nb : Nat} {V : Int → ByteArray} (h : VV x c0 d0 w sb db eb N m nb V) (hcd : c0 + 9 < d0 ∨ d0 + 2 < c0) {no : Int} (h0 : 0 ≤ no) (h1 : no < nb) (hN : N + 8 < 1099511627776) :
    Calls Tryz.prog 48 #[.pointer (some ⟨sb, 0, none⟩), .int .i64 no] w fun e w' => e = .returned (.tuple #[.string (V no), .int .i64 0]) ∧ ∃ x', Fr x x' (PC c0 d0) w w' ∧ VV x' c0 d0 w' sb db eb (N + 8) m nb V := by
  obtain ⟨A, D, hS, hI, hV⟩ := h
  have I := hI.read h0 h1
  refine (SRead_any x c0 d0 sb db eb A D N w no hS hI.ok hcd h0 (by rw [hI.nb]; exact h1) hN (hI.free no)).mono ?_
  rintro e w' ⟨rfl, x', f, s⟩
  exact ⟨by rw [hV no], x', f, _, _, s, I.1, fun k => by rw [I.2 k, hV k]⟩
theorem VV.Size {x : Nat → Nat} {c0 d0 : Nat} {w : World} {sb db eb N m nb : Nat} {V : Int → ByteArray} (h : VV x c0 d0 w sb db eb N m nb V) :
    Calls Tryz.prog 16 #[.pointer (some ⟨sb, 0, none⟩)] w fun e w' => e = .returned (.int .i64 ((512 * m : Nat) : Int)) ∧ w = w' := by
  obtain ⟨A, D, ⟨⟨cb, pm, blk, t⟩, d⟩, hI, -⟩ := h
  have e : D.size = 512 * m := by unfold Dev.size; rw [hI.ns]
  rw [← e]
  exact SSize_any x c0 d0 sb db eb cb pm blk A D N w t d hI.ok.dev
theorem VV.Stats {x : Nat → Nat} {c0 d0 : Nat} {w : World} {sb db eb N m nb : Nat} {V : Int → ByteArray} (h : VV x c0 d0 w sb db eb N m nb V) :
    Calls Tryz.prog 27 #[.pointer (some ⟨sb, 0, none⟩)] w fun e w' => (∃ a b c d f : Int, e = .returned (.agg #[.int .i64 a, .int .i64 b, .int .i64 c, .int .i64 d, .int .i64 f, .int .i64 0, .int .i64 0])) ∧ Below w.heap.size w w' := by
  obtain ⟨A, D, hS, hI, -⟩ := h
  refine (Stats_any x c0 d0 sb db eb A D N w hS).mono ?_
  rintro e w' ⟨rfl, hb⟩
  refine ⟨⟨A.arc.size, A.hits, A.misses, A.written, A.cnt, ?_⟩, hb⟩
  unfold statsV
  rw [hI.pinned, hI.most]
  rfl
theorem VV.below {x : Nat → Nat} {c0 d0 : Nat} {w : World} {sb db eb N m nb : Nat} {V : Int → ByteArray} (h : VV x c0 d0 w sb db eb N m nb V) (W : World) (hb : Below w.heap.size w W) : VV x c0 d0 W sb db eb N m nb V := by
  obtain ⟨A, D, h1, h2, h3⟩ := h
  exact ⟨A, D, h1.below hb (fun _ _ => rfl), h2, h3⟩
/-- the map of blocks stands in the space -/
theorem VV.cells {x : Nat → Nat} {c0 d0 : Nat} {w : World} {sb db eb N m nb : Nat} {V : Int → ByteArray} (h : VV x c0 d0 w sb db eb N m nb V) : w.cell? ⟨sb, 1, none⟩ = some (.pointer (some ⟨eb, 0, none⟩)) := by
  obtain ⟨A, D, ⟨⟨cb, pm, blk, t⟩, -⟩, -, -⟩ := h
  exact t.cells.2.1
theorem VV.made {x : Nat → Nat} {c0 d0 : Nat} {w : World} {sb db eb m nb fr : Nat} (h : SIs x c0 d0 w sb db eb (newP fr) (newD nb m) 0) (hnb : 16 ≤ nb ∧ nb ≤ 4096) (hm : 1 ≤ m ∧ m ≤ 8) (h1 : 1 ≤ fr) (h2 : fr ≤ 1024) : ∃ V, VV x c0 d0 w sb db eb 0 m nb V := by
  have dk := newD_ok nb m hnb hm
  exact ⟨_, _, _, h, ⟨newP_ok fr h1 (by omega) _ dk rfl, rfl, rfl, fun _ => rfl, rfl, rfl⟩, fun _ => rfl⟩

end Go.Proofs.YtbgbomlmgkgkoaaGreat.vc

namespace Go.Proofs.YtbgbomlmgkgkoaaGreat.st
open Go.RowKit Go.Proofs.YtbgbomlmgkgkoaaGreat.own Go.Proofs.YtbgbomlmgkgkoaaGreat.dv Go.Proofs.YtbgbomlmgkgkoaaGreat.po

def crcBit (d : Int) : Int := bits BinOp.xor IntKind.u32 (d / 2) (bits BinOp.and IntKind.u32 2197175160 (-bits BinOp.and IntKind.u32 d 1 % 4294967296))
def crcIter : Nat → Int → Int
  | 0, d => d
  | n + 1, d => crcBit (crcIter n d)
def crcB (c : Int) (b : Nat) : Int := crcIter 8 (bits BinOp.xor IntKind.u32 c (b : Int))
def onF (c : Int) (l : List UInt8) : Int := l.foldl (fun c b => crcB c b.toNat) c

/-- a captured number's cell, all else as it was -/
structure CB (w : World) (cb : Nat) (c : Int) (w' : World) : Prop where
  h : w'.heap[cb]? = some (.cells #[.int .u32 c] 126 (0, 0))
  g : w.grownBy w' (some cb)
  z : w'.heap.size = w.heap.size
theorem CB.refl {w : World} {cb : Nat} {c : Int} (h : w.heap[cb]? = some (.cells #[.int .u32 c] 126 (0, 0))) : CB w cb c w := ⟨h, ⟨rfl, rfl, rfl, Nat.le_refl _, fun _ _ _ => rfl⟩, rfl⟩
theorem CB.set {w w' : World} {cb : Nat} {c : Int} (h : CB w cb c w') (d : Int) : CB w cb d (w'.setCell ⟨cb, 0, none⟩ (.int .u32 d)) := by
  have g3 := grownBy_setCell_at w' cb 0 (.int .u32 d)
  refine ⟨heap_setCell_same w' cb 0 _ _ (.int .u32 d) h.h, ⟨g3.os.trans h.g.os, g3.tape.trans h.g.tape, g3.output.trans h.g.output, Nat.le_trans h.g.size g3.size, fun b hb hne => (g3.block b (by have := h.z; omega) hne).trans (h.g.block b hb hne)⟩, ?_⟩
  have : (w'.setCell ⟨cb, 0, none⟩ (.int .u32 d)).heap.size = w'.heap.size := by simp
  rw [this]; exact h.z
theorem CB.trans {w w1 w2 : World} {cb : Nat} {c d : Int} (h : CB w cb c w1) (k : CB w1 cb d w2) : CB w cb d w2 :=
  ⟨k.h, ⟨k.g.os.trans h.g.os, k.g.tape.trans h.g.tape, k.g.output.trans h.g.output, Nat.le_trans h.g.size k.g.size, fun b hb hne => (k.g.block b (by have := h.z; omega) hne).trans (h.g.block b hb hne)⟩, k.z.trans h.z⟩
theorem CB.cell {w w' : World} {cb : Nat} {c : Int} (h : CB w cb c w') : w'.cell? ⟨cb, 0, none⟩ = some (.int .u32 c) ∧ w'.frozen? ⟨cb, 0, none⟩ = false :=
  ⟨by rw [cell_of_row _ _ _ _ _ _ h.h]; rfl, frozen_of_row _ _ _ _ _ h.h⟩
theorem take_any (w : World) (cb : Nat) (c : Int) (b : Nat) (hb : b < 256) (h : w.heap[cb]? = some (.cells #[.int .u32 c] 126 (0, 0))) :
    Calls Tryz.prog 98 #[.int .u8 (b : Int), .pointer (some ⟨cb, 0, none⟩)] w fun e w' => e = .returned (.tuple #[]) ∧ CB w cb (crcB c b) w' := by
  have C0 := Lib.hid (CB.refl h)
  obtain ⟨k0, kf⟩ := C0.out.cell
  clear h
  go_enter Tryz.func98, Tryz.ntmps98
  go_wp2_with fail
  have C1 := Lib.hid (C0.out.set (bits BinOp.xor IntKind.u32 c (b : Int)))
  clear k0 kf C0
  go_loopw [7] (fun i wr => ∃ j : Nat, i = .int .i64 j ∧ j ≤ 8 ∧ CB w cb (crcIter j (bits BinOp.xor IntKind.u32 c (b : Int))) wr) (fun i _ => 8 - (intOf i).toNat)
  case atStart => exact ⟨0, rfl, by omega, C1.out⟩
  case round =>
    obtain ⟨j, rfl, hj, hC⟩ := hrel
    have CC := Lib.hid hC
    obtain ⟨m0, mf⟩ := hC.cell
    clear hC
    by_cases hlt : j < 8
    · obtain ⟨d, hd⟩ : ∃ d, crcIter j (bits BinOp.xor IntKind.u32 c (b : Int)) = d := ⟨_, rfl⟩
      have HD : Hid (crcIter (j + 1) (bits BinOp.xor IntKind.u32 c (b : Int)) = crcBit d) := Lib.hid (by rw [← hd]; rfl)
      rw [hd] at m0 CC
      clear hd
      have C2 := Lib.hid (CC.out.set (crcBit d))
      clear CC
      go_wp2_with fail
      go_roundw
      case rel => exact ⟨j + 1, by go_num, by omega, by rw [HD.out]; exact C2.out⟩
      case measure => simp [intOf]; omega
    · obtain rfl : j = 8 := by omega
      clear m0 mf
      go_wp2_with fail
      go_end0
      exact ⟨rfl, CC.out⟩

/-- a sum, gone on with a text -/
def notU (c : Int) : Int := bits BinOp.xor IntKind.u32 IntKind.u32.max c
theorem onF_snoc (c : Int) (l : List UInt8) (b : UInt8) : onF c (l ++ [b]) = crcB (onF c l) b.toNat := by unfold onF; rw [List.foldl_append]; rfl
def onS (c : Int) (l : List UInt8) : Int := notU (onF (notU c) l)

set_option maxRecDepth 100000 in
theorem On_any (w : World) (c : Int) (s : ByteArray) (hs : s.size ≤ 1099511627776) :
    Calls Tryz.prog 52 #[.int .u32 c, .string s] w fun e w' => e = .returned (.int .u32 (onS c s.data.toList)) ∧ Below w.heap.size w w' := by
  have k0 : (w.alloc (.cells #[.int .u32 c] 126)).cell? ⟨w.heap.size, 0, none⟩ = some (.int .u32 c) := by rw [cell_of_row _ _ _ _ _ _ (World.alloc_heap_new w (.cells #[.int .u32 c] 126))]; rfl
  have hcv := fun W : World => run_bytes_of_string (P := Tryz.prog) W 9 55 5 s Tryz.underlying9 Tryz.underlying55 Tryz.underlying5
  go_enter Tryz.func52, Tryz.ntmps52
  go_wp2_with fail
  clear k0 hcv
  obtain ⟨gc, hgc⟩ : ∃ gc, grownCap (w.alloc (.cells #[.int .u32 (bits BinOp.xor IntKind.u32 IntKind.u32.max c)] 126)) s.size 0 5 = gc := ⟨_, rfl⟩
  have hgl : s.size ≤ gc := by rw [← hgc]; exact grownCap_ge _ _ _ _
  rw [hgc]
  clear hgc
  change Code.wp _ _ _ _ ((World.alloc (w.alloc (Obj.cells #[Value.int IntKind.u32 (notU c)] 126)) _).drew)
  have hb1 : Below w.heap.size w (w.alloc (.cells #[.int .u32 (notU c)] 126)) := (Below.refl _ w).alloc (Nat.le_refl _) _
  have g1 := World.alloc_heap_new w (.cells #[.int .u32 (notU c)] 126)
  have z1 : (w.alloc (.cells #[.int .u32 (notU c)] 126)).heap.size = w.heap.size + 1 := by simp
  rw [← z1]
  have Z1 := Lib.hid z1
  clear z1
  generalize w.alloc (Obj.cells #[Value.int IntKind.u32 (notU c)] 126) = W1 at hb1 g1 Z1 ⊢
  have BR2 : Hid (BR ((W1.alloc (.cells (bytesRow s gc) 5 ((bytesRow s gc).size, (bytesRow s gc).size + 1))).drew) W1.heap.size s.data.toList) := Lib.hid (BR.made W1 s gc 5)
  have hb2 : Below W1.heap.size W1 ((W1.alloc (.cells (bytesRow s gc) 5 ((bytesRow s gc).size, (bytesRow s gc).size + 1))).drew) := ((Below.refl _ W1).alloc (Nat.le_refl _) _).drew
  have B2 := Lib.hid (hb1.trans (hb2.mono (by have := Z1.out; omega)))
  have C2 := Lib.hid (CB.refl ((hb2.block _ (lt_of_block g1)).trans g1))
  have hzz : W1.heap.size < ((W1.alloc (.cells (bytesRow s gc) 5 ((bytesRow s gc).size, (bytesRow s gc).size + 1))).drew).heap.size := by show W1.heap.size < (W1.heap.push _).size; simp
  have HZZ := Lib.hid hzz
  clear hb1 g1 hb2 hzz
  generalize (W1.alloc _).drew = W2 at BR2 B2 C2 HZZ ⊢
  generalize hg2 : W1.heap.size = g2 at BR2 Z1 HZZ ⊢
  clear hg2
  go_loopw [14] (fun i wr => ∃ k : Nat, i = .int .i64 k ∧ k ≤ s.size ∧ CB W2 w.heap.size (onF (notU c) (s.data.toList.take k)) wr) (fun i _ => s.size - (intOf i).toNat)
  case atStart => exact ⟨0, rfl, by omega, by rw [List.take_zero]; exact C2.out⟩
  case round =>
    obtain ⟨k, rfl, hk, hC⟩ := hrel
    have CC := Lib.hid hC
    have hl : s.data.toList.length = s.size := Array.length_toList
    by_cases hlt : k < s.size
    · have hbr : BR wr g2 s.data.toList := BR2.out.same (hC.g.block g2 (by have := HZZ.out; omega) (fun e => by have := Option.some.inj e; have := Z1.out; omega))
      obtain ⟨hb, -⟩ := hbr k (by omega)
      have HS : Hid (s.data.toList.take (k + 1) = s.data.toList.take k ++ [s.data.toList[k]]) := Lib.hid (List.take_succ_eq_append_getElem (by omega))
      obtain ⟨b, hbb⟩ : ∃ b, s.data.toList[k]'(by omega) = b := ⟨_, rfl⟩
      rw [hbb] at hb HS
      clear hbb hbr hC
      go_wp2_with fail
      refine (take_any wr w.heap.size _ b.toNat b.toNat_lt CC.out.h).mono ?_
      rintro e w3 ⟨rfl, c3⟩
      have C3 : Hid (CB W2 w.heap.size (onF (notU c) (s.data.toList.take (k + 1))) w3) := Lib.hid (by rw [HS.out, onF_snoc]; exact CC.out.trans c3)
      clear c3
      go_wp2_with fail
      go_roundw
      case rel => exact ⟨k + 1, by go_num, by omega, C3.out⟩
      case measure => simp [intOf]; omega
    · obtain rfl : k = s.size := by omega
      rw [List.take_of_length_le (by omega)] at CC
      obtain ⟨m0, mf⟩ := CC.out.cell
      clear hC
      go_wp2_with fail
      go_ret
      exact ⟨rfl, B2.out.grown CC.out.g (by have := B2.out.size; omega) (fun k hk => by have := Option.some.inj hk; omega)⟩
theorem Crc_any (w : World) (s : ByteArray) (hs : s.size ≤ 1099511627776) :
    Calls Tryz.prog 51 #[.string s] w fun e w' => e = .returned (.int .u32 (onS 0 s.data.toList)) ∧ Below w.heap.size w w' := by
  go_enter Tryz.func51, Tryz.ntmps51
  go_wp2_with fail
  refine (On_any w 0 s hs).mono ?_
  rintro e w1 ⟨rfl, hb⟩
  have B := Lib.hid hb
  clear hb
  go_wp2_with fail
  go_ret
  exact ⟨rfl, B.out⟩

end Go.Proofs.YtbgbomlmgkgkoaaGreat.st

namespace Go.Proofs.YtbgbomlmgkgkoaaGreat.st
open Go

/-- a number of 32 bits -/
def U32 (c : Int) : Prop := 0 ≤ c ∧ c < 4294967296
theorem wrap_U32 {c : Int} (h : U32 c) : IntKind.u32.wrap c = c := by rw [IntKind.wrap_u32]; have h1 := h.1; have h2 := h.2; omega
theorem xor_nat (a b : Nat) (ha : a < 4294967296) (hb : b < 4294967296) : bits BinOp.xor IntKind.u32 a b = ((a ^^^ b : Nat) : Int) := by
  have ha' : a % 4294967296 = a := Nat.mod_eq_of_lt ha
  have hb' : b % 4294967296 = b := Nat.mod_eq_of_lt hb
  have hx : a ^^^ b < 4294967296 := Nat.xor_lt_two_pow (n := 32) ha hb
  have hk : (2 : Nat) ^ IntKind.u32.bits = 4294967296 := by decide
  simp only [bits, BitVec.ofInt_natCast, BitVec.toNat_xor, BitVec.toNat_ofNat, hk, ha', hb']
  exact wrap_U32 ⟨Int.natCast_nonneg _, by omega⟩
theorem xor_U32 {a b : Int} (ha : U32 a) (hb : U32 b) : U32 (bits BinOp.xor IntKind.u32 a b) := by
  obtain ⟨x, rfl⟩ := Int.eq_ofNat_of_zero_le ha.1
  obtain ⟨y, rfl⟩ := Int.eq_ofNat_of_zero_le hb.1
  have h1 := ha.2
  have h2 := hb.2
  show U32 (bits BinOp.xor IntKind.u32 (x : Int) (y : Int))
  rw [xor_nat x y (by omega) (by omega)]
  have hx : x ^^^ y < 4294967296 := Nat.xor_lt_two_pow (n := 32) (by omega) (by omega)
  exact ⟨by omega, by omega⟩
theorem and_U32 {a b : Int} (ha : U32 a) (hb : U32 b) : U32 (bits BinOp.and IntKind.u32 a b) := by
  obtain ⟨x, rfl⟩ := Int.eq_ofNat_of_zero_le ha.1
  obtain ⟨y, rfl⟩ := Int.eq_ofNat_of_zero_le hb.1
  have h1 := ha.2
  have h2 := hb.2
  show U32 (bits BinOp.and IntKind.u32 (x : Int) (y : Int))
  rw [(bits_nat IntKind.u32 32 (by decide) (fun n h0 h1 => wrap_U32 ⟨h0, by simpa using h1⟩) x y (by omega) (by omega)).1]
  have hx : x &&& y ≤ x := Nat.and_le_left
  exact ⟨by omega, by omega⟩
theorem crcBit_U32 {d : Int} (h : U32 d) : U32 (crcBit d) := by
  have h1 := h.1
  have h2 := h.2
  refine xor_U32 ⟨by omega, by omega⟩ (and_U32 ⟨by decide, by decide⟩ ⟨Int.emod_nonneg _ (by decide), Int.emod_lt_of_pos _ (by decide)⟩)
theorem crcIter_U32 {d : Int} (h : U32 d) : ∀ n, U32 (crcIter n d)
  | 0 => h
  | n + 1 => crcBit_U32 (crcIter_U32 h n)
theorem crcB_U32 {c : Int} (h : U32 c) (b : UInt8) : U32 (crcB c b.toNat) := crcIter_U32 (xor_U32 h ⟨by omega, by have := b.toNat_lt; omega⟩) 8
theorem onF_U32 : ∀ (l : List UInt8) {c : Int}, U32 c → U32 (onF c l)
  | [], _, h => h
  | b :: l, _, h => onF_U32 l (crcB_U32 h b)
theorem notU_U32 {c : Int} (h : U32 c) : U32 (notU c) := xor_U32 ⟨by decide, by decide⟩ h
theorem notU_notU {c : Int} (h : U32 c) : notU (notU c) = c := by
  obtain ⟨x, rfl⟩ := Int.eq_ofNat_of_zero_le h.1
  have h2 := h.2
  have hm : IntKind.u32.max = ((4294967295 : Nat) : Int) := by decide
  unfold notU
  show bits BinOp.xor IntKind.u32 IntKind.u32.max (bits BinOp.xor IntKind.u32 IntKind.u32.max (x : Int)) = (x : Int)
  have hx : 4294967295 ^^^ x < 4294967296 := Nat.xor_lt_two_pow (n := 32) (by decide) (by omega)
  rw [hm, xor_nat 4294967295 x (by decide) (by omega), xor_nat 4294967295 _ (by decide) hx, ← Nat.xor_assoc, Nat.xor_self, Nat.zero_xor]
theorem onS_append (a b : List UInt8) : onS (onS 0 a) b = onS 0 (a ++ b) := by
  have h0 : U32 0 := ⟨by decide, by decide⟩
  unfold onS
  rw [notU_notU (onF_U32 a (notU_U32 h0))]
  unfold onF
  rw [List.foldl_append]

end Go.Proofs.YtbgbomlmgkgkoaaGreat.st

namespace Go.Proofs.YtbgbomlmgkgkoaaGreat.st
open Go

theorem and_nat (a b : Nat) (ha : a < 4294967296) (hb : b < 4294967296) : bits BinOp.and IntKind.u32 a b = ((a &&& b : Nat) : Int) :=
  (bits_nat IntKind.u32 32 (by decide) (fun n h0 h1 => wrap_U32 ⟨h0, by simpa using h1⟩) a b (by omega) (by omega)).1
def crcN (a : Nat) : Nat := if a % 2 = 0 then a / 2 else (a / 2) ^^^ 2197175160
theorem crcBit_nat (a : Nat) (ha : a < 4294967296) : crcBit (a : Int) = ((crcN a : Nat) : Int) := by
  unfold crcBit crcN
  have h1 : bits BinOp.and IntKind.u32 (a : Int) 1 = ((a % 2 : Nat) : Int) := by
    have := and_nat a 1 ha (by decide)
    rw [Nat.and_one_is_mod] at this
    exact this
  rw [h1, show (a : Int) / 2 = ((a / 2 : Nat) : Int) by omega]
  rcases Nat.mod_two_eq_zero_or_one a with h | h
  · rw [h, if_pos rfl]
    have e : (-((0 : Nat) : Int)) % 4294967296 = ((0 : Nat) : Int) := by decide
    have e2 : bits BinOp.and IntKind.u32 2197175160 ((0 : Nat) : Int) = ((0 : Nat) : Int) := by
      have := and_nat 2197175160 0 (by decide) (by decide)
      rwa [Nat.and_zero] at this
    rw [e, e2, xor_nat (a / 2) 0 (by omega) (by decide), Nat.xor_zero]
  · rw [h, if_neg (by decide)]
    have e : (-((1 : Nat) : Int)) % 4294967296 = ((4294967295 : Nat) : Int) := by decide
    have e2 : bits BinOp.and IntKind.u32 2197175160 ((4294967295 : Nat) : Int) = ((2197175160 : Nat) : Int) := by
      have := and_nat 2197175160 4294967295 (by decide) (by decide)
      rwa [show 2197175160 &&& 4294967295 = 2197175160 by decide] at this
    rw [e, e2, xor_nat (a / 2) 2197175160 (by omega) (by decide)]
theorem xor_big (x : Nat) (h : x < 2147483648) : 2147483648 ≤ x ^^^ 2197175160 := by
  rcases Nat.lt_or_ge (x ^^^ 2197175160) 2147483648 with hl | hg
  · have h1 : (x ^^^ 2197175160).testBit 31 = false := Nat.testBit_lt_two_pow (by simpa using hl)
    have h2 : x.testBit 31 = false := Nat.testBit_lt_two_pow (by simpa using h)
    rw [Nat.testBit_xor, h2, show Nat.testBit 2197175160 31 = true by decide] at h1
    cases h1
  · exact hg
theorem crcN_lt (a : Nat) (ha : a < 4294967296) : crcN a < 4294967296 := by
  unfold crcN
  split
  · omega
  · exact Nat.xor_lt_two_pow (n := 32) (by omega) (by decide)
theorem crcN_inj {a b : Nat} (ha : a < 4294967296) (hb : b < 4294967296) (h : crcN a = crcN b) : a = b := by
  unfold crcN at h
  have ba := xor_big (a / 2) (by omega)
  have bb := xor_big (b / 2) (by omega)
  by_cases h1 : a % 2 = 0
  · rw [if_pos h1] at h
    by_cases h2 : b % 2 = 0
    · rw [if_pos h2] at h; omega
    · rw [if_neg h2] at h; omega
  · rw [if_neg h1] at h
    by_cases h2 : b % 2 = 0
    · rw [if_pos h2] at h; omega
    · rw [if_neg h2] at h
      have q := congrArg (fun z => z ^^^ 2197175160) h
      simp only [Nat.xor_assoc, Nat.xor_self, Nat.xor_zero] at q
      omega
theorem crcBit_inj {a b : Int} (ha : U32 a) (hb : U32 b) (h : crcBit a = crcBit b) : a = b := by
  obtain ⟨x, rfl⟩ := Int.eq_ofNat_of_zero_le ha.1
  obtain ⟨y, rfl⟩ := Int.eq_ofNat_of_zero_le hb.1
  have h1 : x < 4294967296 := by have := ha.2; omega
  have h2 : y < 4294967296 := by have := hb.2; omega
  have h' : crcBit (x : Int) = crcBit (y : Int) := h
  rw [crcBit_nat x h1, crcBit_nat y h2] at h'
  have := crcN_inj h1 h2 (by omega)
  rw [this]
theorem crcIter_inj : ∀ (n : Nat) {a b : Int}, U32 a → U32 b → crcIter n a = crcIter n b → a = b
  | 0, _, _, _, _, h => h
  | n + 1, _, _, ha, hb, h => crcIter_inj n ha hb (crcBit_inj (crcIter_U32 ha n) (crcIter_U32 hb n) h)
theorem xor_inj_l {a b c : Int} (ha : U32 a) (hb : U32 b) (hc : U32 c) (h : bits BinOp.xor IntKind.u32 a c = bits BinOp.xor IntKind.u32 b c) : a = b := by
  obtain ⟨x, rfl⟩ := Int.eq_ofNat_of_zero_le ha.1
  obtain ⟨y, rfl⟩ := Int.eq_ofNat_of_zero_le hb.1
  obtain ⟨z, rfl⟩ := Int.eq_ofNat_of_zero_le hc.1
  have h1 : x < 4294967296 := by have := ha.2; omega
  have h2 : y < 4294967296 := by have := hb.2; omega
  have h3 : z < 4294967296 := by have := hc.2; omega
  have h' : bits BinOp.xor IntKind.u32 (x : Int) (z : Int) = bits BinOp.xor IntKind.u32 (y : Int) (z : Int) := h
  rw [xor_nat x z h1 h3, xor_nat y z h2 h3] at h'
  have q := congrArg (fun k => k ^^^ z) (show x ^^^ z = y ^^^ z by omega)
  simp only [Nat.xor_assoc, Nat.xor_self, Nat.xor_zero] at q
  rw [q]
theorem xor_inj_r {a b c : Int} (ha : U32 a) (hb : U32 b) (hc : U32 c) (h : bits BinOp.xor IntKind.u32 c a = bits BinOp.xor IntKind.u32 c b) : a = b := by
  obtain ⟨x, rfl⟩ := Int.eq_ofNat_of_zero_le ha.1
  obtain ⟨y, rfl⟩ := Int.eq_ofNat_of_zero_le hb.1
  obtain ⟨z, rfl⟩ := Int.eq_ofNat_of_zero_le hc.1
  have h1 : x < 4294967296 := by have := ha.2; omega
  have h2 : y < 4294967296 := by have := hb.2; omega
  have h3 : z < 4294967296 := by have := hc.2; omega
  have h' : bits BinOp.xor IntKind.u32 (z : Int) (x : Int) = bits BinOp.xor IntKind.u32 (z : Int) (y : Int) := h
  rw [xor_nat z x h3 h1, xor_nat z y h3 h2] at h'
  have q := congrArg (fun k => z ^^^ k) (show z ^^^ x = z ^^^ y by omega)
  simp only [← Nat.xor_assoc, Nat.xor_self, Nat.zero_xor] at q
  rw [q]
theorem byte_U32 (b : UInt8) : U32 (b.toNat : Int) := ⟨by omega, by have := b.toNat_lt; omega⟩
theorem crcB_inj_c {c c' : Int} (hc : U32 c) (hc' : U32 c') (b : UInt8) (h : crcB c b.toNat = crcB c' b.toNat) : c = c' :=
  xor_inj_l hc hc' (byte_U32 b) (crcIter_inj 8 (xor_U32 hc (byte_U32 b)) (xor_U32 hc' (byte_U32 b)) h)
theorem crcB_inj_b {c : Int} (hc : U32 c) (b b' : UInt8) (h : crcB c b.toNat = crcB c b'.toNat) : b = b' := by
  have q := xor_inj_r (byte_U32 b) (byte_U32 b') hc (crcIter_inj 8 (xor_U32 hc (byte_U32 b)) (xor_U32 hc (byte_U32 b')) h)
  exact UInt8.toNat_inj.1 (by omega)
theorem onF_inj : ∀ (l : List UInt8) {c c' : Int}, U32 c → U32 c' → onF c l = onF c' l → c = c'
  | [], _, _, _, _, h => h
  | b :: l, _, _, hc, hc', h => crcB_inj_c hc hc' b (onF_inj l (crcB_U32 hc b) (crcB_U32 hc' b) h)
theorem onF_turn {c : Int} (hc : U32 c) (a z : List UInt8) (b b' : UInt8) (hne : b ≠ b') : onF c (a ++ b :: z) ≠ onF c (a ++ b' :: z) := fun h => by
  unfold onF at h
  rw [List.foldl_append, List.foldl_append] at h
  have hc2 : U32 (onF c a) := onF_U32 a hc
  exact hne (crcB_inj_b hc2 b b' (onF_inj z (crcB_U32 hc2 b) (crcB_U32 hc2 b') h))
theorem onS_turn (a z : List UInt8) (b b' : UInt8) (hne : b ≠ b') : onS 0 (a ++ b :: z) ≠ onS 0 (a ++ b' :: z) := fun h => by
  have h0 : U32 0 := ⟨by decide, by decide⟩
  have q := congrArg notU h
  unfold onS at q
  rw [notU_notU (onF_U32 _ (notU_U32 h0)), notU_notU (onF_U32 _ (notU_U32 h0))] at q
  exact onF_turn (notU_U32 h0) a z b b' hne q

end Go.Proofs.YtbgbomlmgkgkoaaGreat.st

namespace Go.Proofs.YtbgbomlmgkgkoaaGreat.st
open Go.RowKit Go.Proofs.YtbgbomlmgkgkoaaGreat.own Go.Proofs.YtbgbomlmgkgkoaaGreat.dv Go.Proofs.YtbgbomlmgkgkoaaGreat.po Go.Proofs.YtbgbomlmgkgkoaaGreat.arcI Go.Proofs.YtbgbomlmgkgkoaaGreat.vc

/-! ### a space, by what its blocks have -/
def SV (x : Nat → Nat) (c0 d0 : Nat) (w : World) (sb db eb N m : Nat) (V : Int → ByteArray) : Prop := ∃ A D, SIs x c0 d0 w sb db eb A D N ∧ VInv A D m 24 ∧ ∀ k, cont A D k = V k
theorem SV.frame {x x' : Nat → Nat} {C : Nat → Prop} {c0 d0 : Nat} {w w' : World} {sb db eb N m : Nat} {V : Int → ByteArray} (h : SV x c0 d0 w sb db eb N m V) (hf : Fr x x' C w w') (hC : ∀ e, PD c0 d0 e → ¬ C e) : SV x' c0 d0 w' sb db eb N m V := by
  obtain ⟨A, D, h1, h2, h3⟩ := h; exact ⟨A, D, h1.frame hf hC, h2, h3⟩
theorem SV.mono {x : Nat → Nat} {c0 d0 : Nat} {w : World} {sb db eb N N' m : Nat} {V : Int → ByteArray} (h : SV x c0 d0 w sb db eb N m V) (hN : N ≤ N') : SV x c0 d0 w sb db eb N' m V := by
  obtain ⟨A, D, h1, h2, h3⟩ := h; exact ⟨A, D, h1.mono hN, h2, h3⟩
theorem SV.size {x : Nat → Nat} {c0 d0 : Nat} {w : World} {sb db eb N m : Nat} {V : Int → ByteArray} (h : SV x c0 d0 w sb db eb N m V) : 1 ≤ m ∧ m ≤ 8 := by
  obtain ⟨A, D, h1, h2, h3⟩ := h
  have := h2.ok.dev.sectors
  rw [h2.ns] at this; exact this
theorem SV.text {x : Nat → Nat} {c0 d0 : Nat} {w : World} {sb db eb N m : Nat} {V : Int → ByteArray} (h : SV x c0 d0 w sb db eb N m V) (k : Int) : (V k).size = 512 * m := by
  obtain ⟨A, D, h1, h2, h3⟩ := h
  rw [← h3 k]
  unfold arcI.cont
  have e : D.size = 512 * m := by unfold Dev.size; rw [h2.ns]
  rcases hp : A.pg k with _ | p
  · show (D.now k).size = _
    rw [h2.ok.dev.now, e]
  · show p.text.size = _
    rw [h2.ok.text k p hp, e]
theorem SV.write {x : Nat → Nat} {c0 d0 : Nat} {w : World} {sb db eb N m : Nat} {V : Int → ByteArray} (h : SV x c0 d0 w sb db eb N m V) (hcd : c0 + 9 < d0 ∨ d0 + 2 < c0) {no : Int} (h0 : 0 ≤ no) (h1 : no < 24) {u : ByteArray} (hu : u.size = 512 * m) (hN : N + 8 < 1099511627776) :
    Calls Tryz.prog 83 #[.pointer (some ⟨sb, 0, none⟩), .int .i64 no, .string u] w fun e w' => e = .returned (.int .i64 0) ∧ ∃ x', Fr x x' (PC c0 d0) w w' ∧ SV x' c0 d0 w' sb db eb (N + 8) m (fun k => if k = no then u else V k) := by
  obtain ⟨A, D, hS, hI, hV⟩ := h
  have hus : u.size = D.size := by rw [hu]; unfold Dev.size; rw [hI.ns]
  have I := hI.write h0 h1 hus
  refine (SWrite_any x c0 d0 sb db eb A D N w no u hS hI.ok hcd h0 (by rw [hI.nb]; exact h1) hN hus (hI.free no)).mono ?_
  rintro e w' ⟨rfl, x', f, s⟩
  exact ⟨rfl, x', f, _, _, s, I.1, fun k => by rw [I.2 k, hV k]⟩
theorem SV.read {x : Nat → Nat} {c0 d0 : Nat} {w : World} {sb db eb N m : Nat} {V : Int → ByteArray} (h : SV x c0 d0 w sb db eb N m V) (hcd : c0 + 9 < d0 ∨ d0 + 2 < c0) {no : Int} (h0 : 0 ≤ no) (h1 : no < 24) (hN : N + 8 < 1099511627776) :
    Calls Tryz.prog 48 #[.pointer (some ⟨sb, 0, none⟩), .int .i64 no] w fun e w' => e = .returned (.tuple #[.string (V no), .int .i64 0]) ∧ ∃ x', Fr x x' (PC c0 d0) w w' ∧ SV x' c0 d0 w' sb db eb (N + 8) m V := by
  obtain ⟨A, D, hS, hI, hV⟩ := h
  have I := hI.read h0 h1
  refine (SRead_any x c0 d0 sb db eb A D N w no hS hI.ok hcd h0 (by rw [hI.nb]; exact h1) hN (hI.free no)).mono ?_
  rintro e w' ⟨rfl, x', f, s⟩
  exact ⟨by rw [hV no], x', f, _, _, s, I.1, fun k => by rw [I.2 k, hV k]⟩
theorem SV.Size {x : Nat → Nat} {c0 d0 : Nat} {w : World} {sb db eb N m : Nat} {V : Int → ByteArray} (h : SV x c0 d0 w sb db eb N m V) :
    Calls Tryz.prog 16 #[.pointer (some ⟨sb, 0, none⟩)] w fun e w' => e = .returned (.int .i64 ((512 * m : Nat) : Int)) ∧ w = w' := by
  obtain ⟨A, D, ⟨⟨cb, pm, blk, t⟩, d⟩, hI, -⟩ := h
  have e : D.size = 512 * m := by unfold Dev.size; rw [hI.ns]
  rw [← e]
  exact SSize_any x c0 d0 sb db eb cb pm blk A D N w t d hI.ok.dev
theorem SV.Device {x : Nat → Nat} {c0 d0 : Nat} {w : World} {sb db eb N m : Nat} {V : Int → ByteArray} (h : SV x c0 d0 w sb db eb N m V) :
    Calls Tryz.prog 95 #[.pointer (some ⟨sb, 0, none⟩)] w fun e w' => e = .returned (.pointer (some ⟨db, 0, none⟩)) ∧ w = w' := by
  obtain ⟨A, D, ⟨⟨cb, pm, blk, t⟩, -⟩, -, -⟩ := h
  obtain ⟨q0, -⟩ := t.cells
  clear t
  go_enter Tryz.func95, Tryz.ntmps95
  go_wp2_with fail
  go_ret
  exact ⟨rfl, rfl⟩
theorem SV.Blocks {x : Nat → Nat} {c0 d0 : Nat} {w : World} {sb db eb N m : Nat} {V : Int → ByteArray} (h : SV x c0 d0 w sb db eb N m V) :
    Calls Tryz.prog 56 #[.pointer (some ⟨db, 0, none⟩)] w fun e w' => e = .returned (.int .i64 24) ∧ w = w' := by
  obtain ⟨A, D, ⟨-, d⟩, hI, -⟩ := h
  refine (Blocks_any x d0 db D N w d).mono ?_
  rintro e w' ⟨rfl, rfl⟩
  rw [hI.nb]; exact ⟨rfl, rfl⟩

/-! ### the same, and what reading keeps besides -/
structure RdQ (Q : Sp → Dev → Prop) : Prop where
  rd : ∀ (A : Sp) (D : Dev) (no : Int), SpOk A D → (fetchS A D no false).2 = 0 → Q A D → Q (fetchS A D no false).1.1 (fetchS A D no false).1.2
def SQ (Q : Sp → Dev → Prop) (x : Nat → Nat) (c0 d0 : Nat) (w : World) (sb db eb N m : Nat) (V : Int → ByteArray) : Prop := RdQ Q ∧ ∃ A D, SIs x c0 d0 w sb db eb A D N ∧ VInv A D m 24 ∧ (∀ k, cont A D k = V k) ∧ Q A D
section
variable {Q : Sp → Dev → Prop} {x x' : Nat → Nat} {c0 d0 : Nat} {w w' : World} {sb db eb N m : Nat} {V : Int → ByteArray}
theorem SQ.sv (h : SQ Q x c0 d0 w sb db eb N m V) : SV x c0 d0 w sb db eb N m V := by
  obtain ⟨-, A, D, h1, h2, h3, -⟩ := h; exact ⟨A, D, h1, h2, h3⟩
theorem SV.sq (h : SV x c0 d0 w sb db eb N m V) : SQ (fun _ _ => True) x c0 d0 w sb db eb N m V := by
  obtain ⟨A, D, h1, h2, h3⟩ := h; exact ⟨⟨fun _ _ _ _ _ _ => trivial⟩, A, D, h1, h2, h3, trivial⟩
theorem SQ.frame {C : Nat → Prop} (h : SQ Q x c0 d0 w sb db eb N m V) (hf : Fr x x' C w w') (hC : ∀ e, PD c0 d0 e → ¬ C e) : SQ Q x' c0 d0 w' sb db eb N m V := by
  obtain ⟨q, A, D, h1, h2⟩ := h; exact ⟨q, A, D, h1.frame hf hC, h2⟩
theorem SQ.mono {N' : Nat} (h : SQ Q x c0 d0 w sb db eb N m V) (hN : N ≤ N') : SQ Q x c0 d0 w sb db eb N' m V := by
  obtain ⟨q, A, D, h1, h2⟩ := h; exact ⟨q, A, D, h1.mono hN, h2⟩
theorem SQ.size (h : SQ Q x c0 d0 w sb db eb N m V) : 1 ≤ m ∧ m ≤ 8 := h.sv.size
theorem SQ.text (h : SQ Q x c0 d0 w sb db eb N m V) (k : Int) : (V k).size = 512 * m := h.sv.text k
theorem SQ.Size (h : SQ Q x c0 d0 w sb db eb N m V) :
    Calls Tryz.prog 16 #[.pointer (some ⟨sb, 0, none⟩)] w fun e w' => e = .returned (.int .i64 ((512 * m : Nat) : Int)) ∧ w = w' := h.sv.Size
theorem SQ.read (h : SQ Q x c0 d0 w sb db eb N m V) (hcd : c0 + 9 < d0 ∨ d0 + 2 < c0) {no : Int} (h0 : 0 ≤ no) (h1 : no < 24) (hN : N + 8 < 1099511627776) :
    Calls Tryz.prog 48 #[.pointer (some ⟨sb, 0, none⟩), .int .i64 no] w fun e w' => e = .returned (.tuple #[.string (V no), .int .i64 0]) ∧ ∃ x', Fr x x' (PC c0 d0) w w' ∧ SQ Q x' c0 d0 w' sb db eb (N + 8) m V := by
  obtain ⟨q, A, D, hS, hI, hV, hq⟩ := h
  have I := hI.read h0 h1
  refine (SRead_any x c0 d0 sb db eb A D N w no hS hI.ok hcd h0 (by rw [hI.nb]; exact h1) hN (hI.free no)).mono ?_
  rintro e w' ⟨rfl, x', f, s⟩
  exact ⟨by rw [hV no], x', f, q, _, _, s, I.1, fun k => by rw [I.2 k, hV k], q.rd A D no hI.ok (fetch_err A D no false (hI.free no)) hq⟩
theorem SQ.blocks24 (h : SQ Q x c0 d0 w sb db eb N m V) (W : World) (hb : Below w.heap.size w W) : SQ Q x c0 d0 W sb db eb N m V := by
  obtain ⟨q, A, D, h1, h2⟩ := h
  exact ⟨q, A, D, h1.below hb (fun _ _ => rfl), h2⟩
end

/-- a number in some bytes -/
def bytesN (n : Nat) (width : Nat) : List UInt8 := (List.range width).map fun k => UInt8.ofNat (n / 2 ^ (8 * (width - 1 - k)) % 256)

theorem bytesN_len (n width : Nat) : (bytesN n width).length = width := by simp [bytesN]
set_option maxRecDepth 100000 in
theorem fixed_any (w : World) (n width : Nat) (hw : 1 ≤ width ∧ width ≤ 8) :
    Calls Tryz.prog 85 #[.int .u64 (n : Int), .int .i64 (width : Int)] w fun e w' => e = .returned (.string ⟨(bytesN n width).toArray⟩) ∧ Below w.heap.size w w' := by
  obtain ⟨i0, hi, hz0, hz1, hz2⟩ := info_parts Tryz.infoByte9
  obtain ⟨w1, hrun, hown, hg⟩ := run_make_full w 0 55 5 i0 _ 1 (by kernel_rfl) hi hz0 hz1 .i64 .i64 width (by rw [hz2]; omega) (by simp only [maxLen]; omega) (Nat.zero_le _)
  have B1 := Lib.hid (show Below w.heap.size w w1 from ⟨hg.os, hg.tape, hg.output, hg.size, fun k hk => hg.block k hk (by simp)⟩)
  have R1 : Hid (∃ cs : Array Value, w1.heap[w.heap.size]? = some (.cells cs 5 (0, 0)) ∧ cs.size = width) := Lib.hid (by
    rcases hown.2 with ⟨hv, -⟩ | ⟨g, cap, cur, hv, -, hgc, h1, h2, h3, -⟩
    · cases hv
    · have e := Value.slice.inj hv
      have e1 := e.1
      have e2 := e.2.2
      simp at e1
      subst e1
      exact ⟨cur, hgc, by omega⟩)
  clear hown hg
  go_enter Tryz.func85, Tryz.ntmps85
  go_wp2_with fail
  go_loopw [11] (fun i wr => ∃ k : Nat, i = .int .i64 k ∧ k ≤ width ∧ Below w.heap.size w wr ∧ ∃ cs : Array Value, wr.heap[w.heap.size]? = some (.cells cs 5 (0, 0)) ∧ cs.size = width ∧ ∀ j, j < k → cs[j]? = some (.int .u8 ((n / 2 ^ (8 * (width - 1 - j)) % 256 : Nat) : Int))) (fun i _ => width - (intOf i).toNat)
  case atStart => obtain ⟨cs, h1, h2⟩ := R1.out; exact ⟨0, rfl, by omega, B1.out, cs, h1, h2, fun j hj => absurd hj (Nat.not_lt_zero _)⟩
  case round =>
    obtain ⟨k, rfl, hk, hb, cs, hcs, hsz, hv⟩ := hrel
    have BB := Lib.hid hb
    have CS := Lib.hid hcs
    have HV := Lib.hid hv
    by_cases hlt : k < width
    · have kc : (wr.cell? ⟨w.heap.size, k, none⟩).isSome = true := by rw [cell_of_row _ _ _ _ _ _ hcs]; simp; omega
      obtain ⟨v0, hv0⟩ := Option.isSome_iff_exists.1 kc
      have kf : wr.frozen? ⟨w.heap.size, k, none⟩ = false := frozen_of_row _ _ _ _ _ hcs
      clear hb hcs hv kc
      go_wp2_with fail
      go_roundw
      case rel =>
        have E : ((n : Int) / 2 ^ (8 * (width - 1 - k)) % 256) = ((n / 2 ^ (8 * (width - 1 - k)) % 256 : Nat) : Int) := by simp
        rw [E]
        refine ⟨k + 1, by go_num, by omega, BB.out.setCell (p := ⟨w.heap.size, k, none⟩) (Nat.le_refl _) _, _, heap_setCell_same wr _ k _ _ _ CS.out, by simp [hsz], fun j hj => ?_⟩
        by_cases hjk : j = k
        · subst hjk; rw [Array.getElem?_setIfInBounds_self_of_lt (by omega)]
        · rw [Array.getElem?_setIfInBounds_ne (fun e => hjk e.symm)]; exact HV.out j (by omega)
      case measure => simp [intOf]; omega
    · obtain rfl : k = width := by omega
      have hcv := run_convert_bytes_back (P := Tryz.prog) wr 55 9 5 ⟨w.heap.size, 0, none⟩ k (bytesN n k) (by kernel_rfl) (by kernel_rfl) (by kernel_rfl) (fun j hj => by
        rw [bytesN_len] at hj
        rw [Addr.add_lit, Nat.zero_add, cell_of_row _ _ _ _ _ _ hcs, hv j hj]
        have : (bytesN n k)[j]'(by rw [bytesN_len]; exact hj) = UInt8.ofNat (n / 2 ^ (8 * (k - 1 - j)) % 256) := by simp [bytesN]
        rw [this]
        have h256 : n / 2 ^ (8 * (k - 1 - j)) % 256 < 256 := Nat.mod_lt _ (by decide)
        rw [UInt8.toNat_ofNat', Nat.mod_eq_of_lt h256])
      rw [bytesN_len] at hcv
      clear hb hcs hv
      go_wp2_with fail
      go_ret
      exact ⟨rfl, BB.out⟩

theorem SV.blocks24 {x : Nat → Nat} {c0 d0 : Nat} {w : World} {sb db eb N m : Nat} {V : Int → ByteArray} (h : SV x c0 d0 w sb db eb N m V) (W : World) (hb : Below w.heap.size w W) : SV x c0 d0 W sb db eb N m V := by
  obtain ⟨A, D, h1, h2, h3⟩ := h
  exact ⟨A, D, h1.below hb (fun _ _ => rfl), h2, h3⟩

theorem SV.SizeQ {x : Nat → Nat} {c0 d0 : Nat} {w : World} {sb db eb N m : Nat} {V : Int → ByteArray} (h : SV x c0 d0 w sb db eb N m V) (q : Nat) :
    Calls Tryz.prog 16 #[.pointer (some ⟨sb, 0, none⟩)] (w.drewN q) fun e w' => e = .returned (.int .i64 ((512 * m : Nat) : Int)) ∧ ∃ n, w' = (w.drewN q).drewN n :=
  (SV.Size (h.blocks24 (w.drewN q) ⟨rfl, rfl, rfl, Nat.le_refl _, fun _ _ => rfl⟩)).mono (fun _ _ hh => ⟨hh.1, 0, hh.2.symm⟩)
theorem SV.DeviceQ {x : Nat → Nat} {c0 d0 : Nat} {w : World} {sb db eb N m : Nat} {V : Int → ByteArray} (h : SV x c0 d0 w sb db eb N m V) (q : Nat) :
    Calls Tryz.prog 95 #[.pointer (some ⟨sb, 0, none⟩)] (w.drewN q) fun e w' => e = .returned (.pointer (some ⟨db, 0, none⟩)) ∧ ∃ n, w' = (w.drewN q).drewN n :=
  (SV.Device (h.blocks24 (w.drewN q) ⟨rfl, rfl, rfl, Nat.le_refl _, fun _ _ => rfl⟩)).mono (fun _ _ hh => ⟨hh.1, 0, hh.2.symm⟩)
theorem SV.BlocksQ {x : Nat → Nat} {c0 d0 : Nat} {w : World} {sb db eb N m : Nat} {V : Int → ByteArray} (h : SV x c0 d0 w sb db eb N m V) (q : Nat) :
    Calls Tryz.prog 56 #[.pointer (some ⟨db, 0, none⟩)] (w.drewN q) fun e w' => e = .returned (.int .i64 24) ∧ ∃ n, w' = (w.drewN q).drewN n :=
  (SV.Blocks (h.blocks24 (w.drewN q) ⟨rfl, rfl, rfl, Nat.le_refl _, fun _ _ => rfl⟩)).mono (fun _ _ hh => ⟨hh.1, 0, hh.2.symm⟩)

def placeV (sb st ln : Nat) : Value := .agg #[.pointer (some ⟨sb, 0, none⟩), .int .i64 (st : Int), .int .i64 (ln : Int)]
set_option maxRecDepth 100000 in
theorem check_any (x : Nat → Nat) (c0 d0 sb db eb N m : Nat) (V : Int → ByteArray) (w : World) (st ln : Nat) (h : SV x c0 d0 w sb db eb N m V) (h1 : 1 ≤ ln) (h2 : st + ln ≤ 24) :
    Calls Tryz.prog 47 #[placeV sb st ln] w fun e w' => e = .returned (.int .i64 0) ∧ Below w.heap.size w w' := by
  have hb0 : Below w.heap.size w (w.alloc (.cells #[.pointer (some ⟨sb, 0, none⟩), .int .i64 (st : Int), .int .i64 (ln : Int)] 125)) := (Below.refl _ w).alloc (Nat.le_refl _) _
  have gb := World.alloc_heap_new w (.cells #[.pointer (some ⟨sb, 0, none⟩), .int .i64 (st : Int), .int .i64 (ln : Int)] 125)
  have S0 := Lib.hid (h.blocks24 _ hb0)
  have B0 := Lib.hid hb0
  have G0 := Lib.hid gb
  clear h hb0 gb
  unfold placeV
  go_enter Tryz.func47, Tryz.ntmps47
  go_upto_region 1 with fail
  generalize w.alloc _ = W at S0 B0 G0 ⊢
  have k0 : W.cell? ⟨w.heap.size, 0, none⟩ = some (.pointer (some ⟨sb, 0, none⟩)) := by rw [cell_of_row _ _ _ _ _ _ G0.out]; rfl
  have k1 : W.cell? ⟨w.heap.size, 1, none⟩ = some (.int .i64 (st : Int)) := by rw [cell_of_row _ _ _ _ _ _ G0.out]; rfl
  have k2 : W.cell? ⟨w.heap.size, 2, none⟩ = some (.int .i64 (ln : Int)) := by rw [cell_of_row _ _ _ _ _ _ G0.out]; rfl
  have SD := Lib.hid S0.out.DeviceQ
  have SB := Lib.hid S0.out.BlocksQ
  have d1 : decide ((ln : Int) < 1) = false := decide_eq_false (by omega)
  have d2 : decide ((st : Int) < 0) = false := decide_eq_false (by omega)
  have d3 : decide ((24 : Int) ≤ (st : Int)) = false := decide_eq_false (by omega)
  have d5 : IntKind.i64.wrap (24 - (st : Int)) = 24 - (st : Int) := IntWalk.i64_in _ (by omega)
  have d4 : decide ((24 : Int) - (st : Int) < (ln : Int)) = false := decide_eq_false (by omega)
  have d6 : decide ((24 : Int) - (ln : Int) < (st : Int)) = false := decide_eq_false (by omega)
  go_upto_region 3 with fail
  go_quiet (first | (go_at_call 95; exact Calls.quiet_of (SD.out _)) | (go_at_call 56; exact Calls.quiet_of (SB.out _)))
  go_wp2_with fail
  go_ret
  exact ⟨rfl, B0.out.trans ⟨rfl, rfl, rfl, Nat.le_refl _, fun _ _ => rfl⟩⟩

theorem room_any (x : Nat → Nat) (c0 d0 sb db eb N m : Nat) (V : Int → ByteArray) (w : World) (st ln : Nat) (h : SV x c0 d0 w sb db eb N m V) (h1 : 1 ≤ ln) (h2 : ln ≤ 24) :
    Calls Tryz.prog 50 #[placeV sb st ln] w fun e w' => e = .returned (.int .i64 ((ln * (512 * m) - 12 : Nat) : Int)) ∧ Below w.heap.size w w' := by
  have hm := h.size
  have hb0 : Below w.heap.size w (w.alloc (.cells #[.pointer (some ⟨sb, 0, none⟩), .int .i64 (st : Int), .int .i64 (ln : Int)] 125)) := (Below.refl _ w).alloc (Nat.le_refl _) _
  have gb := World.alloc_heap_new w (.cells #[.pointer (some ⟨sb, 0, none⟩), .int .i64 (st : Int), .int .i64 (ln : Int)] 125)
  have S0 := Lib.hid (h.blocks24 _ hb0)
  have B0 := Lib.hid hb0
  have G0 := Lib.hid gb
  clear h hb0 gb
  unfold placeV
  go_enter Tryz.func50, Tryz.ntmps50
  go_upto_region 1 with fail
  generalize w.alloc _ = W at S0 B0 G0 ⊢
  have k0 : W.cell? ⟨w.heap.size, 0, none⟩ = some (.pointer (some ⟨sb, 0, none⟩)) := by rw [cell_of_row _ _ _ _ _ _ G0.out]; rfl
  have k2 : W.cell? ⟨w.heap.size, 2, none⟩ = some (.int .i64 (ln : Int)) := by rw [cell_of_row _ _ _ _ _ _ G0.out]; rfl
  have SS := Lib.hid S0.out.SizeQ
  obtain ⟨p, hp⟩ : ∃ p, ln * (512 * m) = p := ⟨_, rfl⟩
  have hp2 : 512 ≤ p := by rw [← hp]; have := Nat.mul_le_mul h1 (show 512 ≤ 512 * m by omega); omega
  have hp3 : p ≤ 98304 := by rw [← hp]; have := Nat.mul_le_mul h2 (show 512 * m ≤ 4096 by omega); omega
  have e1 : IntKind.i64.wrap ((ln : Int) * ((512 * m : Nat) : Int)) = (p : Int) := by rw [← Int.natCast_mul, hp]; exact IntWalk.i64_in _ (by omega)
  have e2 : IntKind.i64.wrap ((p : Int) - 12) = ((p - 12 : Nat) : Int) := by rw [IntWalk.i64_in _ (by omega)]; omega
  obtain ⟨sz, hsz⟩ : ∃ sz, 512 * m = sz := ⟨_, rfl⟩
  rw [hsz] at SS e1
  have HP := Lib.hid hp
  clear hp hsz
  go_quiet (first | (go_at_call 16; exact Calls.quiet_of (SS.out _)))
  go_wp2_with fail
  go_ret
  exact ⟨by rw [HP.out]; rfl, B0.out.trans ⟨rfl, rfl, rfl, Nat.le_refl _, fun _ _ => rfl⟩⟩

end Go.Proofs.YtbgbomlmgkgkoaaGreat.st

namespace Go.Proofs.YtbgbomlmgkgkoaaGreat.st
open Go.RowKit Go.Proofs.YtbgbomlmgkgkoaaGreat.own Go.Proofs.YtbgbomlmgkgkoaaGreat.dv Go.Proofs.YtbgbomlmgkgkoaaGreat.po Go.Proofs.YtbgbomlmgkgkoaaGreat.arcI

def bv (l : List UInt8) : List Value := l.map fun b => .int .u8 (b.toNat : Int)
theorem bv_len (l : List UInt8) : (bv l).length = l.length := by simp [bv]
def wrCells (sb st ln : Nat) (rv : Value) (at_ len : Nat) (sum : Int) (pb xb qb : Nat) (dn : Bool) : Array Value :=
  #[.pointer (some ⟨sb, 0, none⟩), .int .i64 (st : Int), .int .i64 (ln : Int), rv, .int .i64 (at_ : Int), .int .i64 (len : Int), .int .u32 sum, .func (.func 82) #[] #[.pointer (some ⟨pb, 0, none⟩), .pointer (some ⟨xb, 0, none⟩), .pointer (some ⟨qb, 0, none⟩)], .bool dn]
structure WI (x : Nat → Nat) (v0 : Nat) (w : World) (wb sb st ln : Nat) (rv : Value) (pb xb qb : Nat) (R : List UInt8) (at_ len : Nat) (sum : Int) (dn : Bool) : Prop where
  h0 : w.heap[wb]? = some (.cells (wrCells sb st ln rv at_ len sum pb xb qb dn) 188 (0, 0))
  x0 : x wb = v0
  row : w.ownsRow 0 5 1 rv R.length (bv R)
  xr : ∀ b, rv.ownBlock = some b → x b = v0 + 1
  hp : w.heap[pb]? = some (.cells #[.pointer (some ⟨sb, 0, none⟩)] 25 (0, 0))
  xp : x pb = v0 + 2
  hx : w.heap[xb]? = some (.cells #[.int .i64 (st : Int), .int .i64 (ln : Int)] 34 (0, 0))
  xx : x xb = v0 + 2
  hq : w.heap[qb]? = some (.cells #[.pointer (some ⟨wb, 0, none⟩)] 95 (0, 0))
  xq : x qb = v0 + 2
def VC (v0 : Nat) : Nat → Prop := fun e => v0 ≤ e ∧ e ≤ v0 + 2
theorem WI.frame {x x' : Nat → Nat} {C : Nat → Prop} {v0 : Nat} {w w' : World} {wb sb st ln : Nat} {rv : Value} {pb xb qb : Nat} {R : List UInt8} {at_ len : Nat} {sum : Int} {dn : Bool} (h : WI x v0 w wb sb st ln rv pb xb qb R at_ len sum dn) (hf : Fr x x' C w w') (hC : ∀ e, VC v0 e → ¬ C e) : WI x' v0 w' wb sb st ln rv pb xb qb R at_ len sum dn := by
  have n0 := hC v0 ⟨by omega, by omega⟩
  have n1 := hC (v0 + 1) ⟨by omega, by omega⟩
  have n2 := hC (v0 + 2) ⟨by omega, by omega⟩
  obtain ⟨r1, r2⟩ := row_frame hf n1 h.row h.xr
  have l0 := lt_of_block h.h0
  have lp := lt_of_block h.hp
  have lx := lt_of_block h.hx
  have lq := lt_of_block h.hq
  exact ⟨(hf.old _ l0 (by rw [h.x0]; exact n0)).trans h.h0, (hf.col _ l0).trans h.x0, r1, r2, (hf.old _ lp (by rw [h.xp]; exact n2)).trans h.hp, (hf.col _ lp).trans h.xp, (hf.old _ lx (by rw [h.xx]; exact n2)).trans h.hx, (hf.col _ lx).trans h.xx, (hf.old _ lq (by rw [h.xq]; exact n2)).trans h.hq, (hf.col _ lq).trans h.xq⟩
theorem WI.below {x : Nat → Nat} {v0 : Nat} {w w' : World} {wb sb st ln : Nat} {rv : Value} {pb xb qb : Nat} {R : List UInt8} {at_ len : Nat} {sum : Int} {dn : Bool} (h : WI x v0 w wb sb st ln rv pb xb qb R at_ len sum dn) (hb : Below w.heap.size w w') : WI x v0 w' wb sb st ln rv pb xb qb R at_ len sum dn :=
  ⟨(hb.block _ (lt_of_block h.h0)).trans h.h0, h.x0, own_below h.row hb, h.xr, (hb.block _ (lt_of_block h.hp)).trans h.hp, h.xp, (hb.block _ (lt_of_block h.hx)).trans h.hx, h.xx, (hb.block _ (lt_of_block h.hq)).trans h.hq, h.xq⟩
theorem WI.paint {x : Nat → Nat} {v0 : Nat} {w : World} {wb sb st ln : Nat} {rv : Value} {pb xb qb : Nat} {R : List UInt8} {at_ len : Nat} {sum : Int} {dn : Bool} (h : WI x v0 w wb sb st ln rv pb xb qb R at_ len sum dn) {x' : Nat → Nat} (hx : ∀ b, b < w.heap.size → x' b = x b) : WI x' v0 w wb sb st ln rv pb xb qb R at_ len sum dn :=
  ⟨h.h0, (hx _ (lt_of_block h.h0)).trans h.x0, h.row, fun b hb => (hx _ (h.row.lt b hb).2).trans (h.xr b hb), h.hp, (hx _ (lt_of_block h.hp)).trans h.xp, h.hx, (hx _ (lt_of_block h.hx)).trans h.xx, h.hq, (hx _ (lt_of_block h.hq)).trans h.xq⟩
/-- a field of a writer is set -/
theorem WI.setAt {x : Nat → Nat} {v0 : Nat} {w : World} {wb sb st ln : Nat} {rv : Value} {pb xb qb : Nat} {R : List UInt8} {at_ len : Nat} {sum : Int} {dn : Bool} (h : WI x v0 w wb sb st ln rv pb xb qb R at_ len sum dn) (o : Nat) (u : Value) (rv' : Value) (R' : List UInt8) (at' len' : Nat) (sum' : Int) (dn' : Bool)
    (e : (wrCells sb st ln rv at_ len sum pb xb qb dn).setIfInBounds o u = wrCells sb st ln rv' at' len' sum' pb xb qb dn') (hr : w.ownsRow 0 5 1 rv' R'.length (bv R')) (hxr : ∀ b, rv'.ownBlock = some b → x b = v0 + 1) :
    Fr x x (fun e => e = v0) w (w.setCell ⟨wb, o, none⟩ u) ∧ WI x v0 (w.setCell ⟨wb, o, none⟩ u) wb sb st ln rv' pb xb qb R' at' len' sum' dn' := by
  have old : ∀ b, b ≠ wb → (w.setCell ⟨wb, o, none⟩ u).heap[b]? = w.heap[b]? := fun b hb => Below.heap_setCell w _ _ _ hb
  refine ⟨Fr.same rfl rfl rfl (by simp) (fun b _ hC => old b (by rintro rfl; exact hC h.x0)), ?_, h.x0, ?_, hxr, ?_, h.xp, ?_, h.xx, ?_, h.xq⟩
  · rw [heap_setCell_same w wb o _ _ _ h.h0, e]
  · exact hr.kept (grownBy_setCell_at w wb o u) (.inr (fun e => by have a := hxr wb e; rw [h.x0] at a; omega))
  · rw [old pb (by rintro rfl; have a := h.xp; rw [h.x0] at a; omega)]; exact h.hp
  · rw [old xb (by rintro rfl; have a := h.xx; rw [h.x0] at a; omega)]; exact h.hx
  · rw [old qb (by rintro rfl; have a := h.xq; rw [h.x0] at a; omega)]; exact h.hq
theorem WI.cells {x : Nat → Nat} {v0 : Nat} {w : World} {wb sb st ln : Nat} {rv : Value} {pb xb qb : Nat} {R : List UInt8} {at_ len : Nat} {sum : Int} {dn : Bool} (h : WI x v0 w wb sb st ln rv pb xb qb R at_ len sum dn) :
    w.cell? ⟨wb, 0, none⟩ = some (.pointer (some ⟨sb, 0, none⟩)) ∧ w.cell? ⟨wb, 1, none⟩ = some (.int .i64 (st : Int)) ∧ w.cell? ⟨wb, 2, none⟩ = some (.int .i64 (ln : Int)) ∧ w.cell? ⟨wb, 3, none⟩ = some rv ∧ w.cell? ⟨wb, 4, none⟩ = some (.int .i64 (at_ : Int)) ∧ w.cell? ⟨wb, 5, none⟩ = some (.int .i64 (len : Int)) ∧ w.cell? ⟨wb, 6, none⟩ = some (.int .u32 sum) ∧
    w.cell? ⟨wb, 7, none⟩ = some (.func (.func 82) #[] #[.pointer (some ⟨pb, 0, none⟩), .pointer (some ⟨xb, 0, none⟩), .pointer (some ⟨qb, 0, none⟩)]) ∧ w.cell? ⟨wb, 8, none⟩ = some (.bool dn) ∧ (∀ j, w.frozen? ⟨wb, j, none⟩ = false) ∧
    w.cell? ⟨pb, 0, none⟩ = some (.pointer (some ⟨sb, 0, none⟩)) ∧ w.cell? ⟨xb, 0, none⟩ = some (.int .i64 (st : Int)) ∧ w.cell? ⟨xb, 1, none⟩ = some (.int .i64 (ln : Int)) ∧ w.cell? ⟨qb, 0, none⟩ = some (.pointer (some ⟨wb, 0, none⟩)) := by
  refine ⟨?_, ?_, ?_, ?_, ?_, ?_, ?_, ?_, ?_, fun j => frozen_of_row w _ j _ _ h.h0, ?_, ?_, ?_, ?_⟩
  all_goals first
    | (rw [cell_of_row w wb _ _ _ _ h.h0]; rfl)
    | (rw [cell_of_row w pb _ _ _ _ h.hp]; rfl)
    | (rw [cell_of_row w xb _ _ _ _ h.hx]; rfl)
    | (rw [cell_of_row w qb _ _ _ _ h.hq]; rfl)

theorem wready_any (x : Nat → Nat) (v0 : Nat) (w : World) (wb sb st ln : Nat) (rv : Value) (pb xb qb : Nat) (R : List UInt8) (at_ len : Nat) (sum : Int) (h : WI x v0 w wb sb st ln rv pb xb qb R at_ len sum false) :
    Calls Tryz.prog 84 #[.pointer (some ⟨wb, 0, none⟩)] w fun e w' => e = .returned (.int .i64 0) ∧ w = w' := by
  obtain ⟨-, -, -, -, -, -, -, -, c8, -⟩ := h.cells
  clear h
  go_enter Tryz.func84, Tryz.ntmps84
  go_wp2_with fail
  go_ret
  exact ⟨rfl, rfl⟩

set_option maxRecDepth 100000 in
set_option maxHeartbeats 1600000 in
theorem put_any (x : Nat → Nat) (v0 c0 d0 : Nat) (w : World) (wb sb db eb N m st ln : Nat) (V : Int → ByteArray) (rv : Value) (pb xb qb : Nat) (R : List UInt8) (at_ len : Nat) (sum : Int) (t : ByteArray) (h : WI x v0 w wb sb st ln rv pb xb qb R at_ len sum false) (hs : SV x c0 d0 w sb db eb N m V) (hcd : c0 + 9 < d0 ∨ d0 + 2 < c0)
    (hv : ∀ e, VC v0 e → ¬ PC c0 d0 e) (ha : st + at_ < 24) (ht : t.size = 512 * m) (hN : N + 8 < 1099511627776) :
    Calls Tryz.prog 82 #[.string t, .pointer (some ⟨pb, 0, none⟩), .pointer (some ⟨xb, 0, none⟩), .pointer (some ⟨qb, 0, none⟩)] w fun e w' => e = .returned (.int .i64 0) ∧
      ∃ x', Fr x x' (fun e => PC c0 d0 e ∨ e = v0) w w' ∧ WI x' v0 w' wb sb st ln rv pb xb qb R (at_ + 1) len sum false ∧ SV x' c0 d0 w' sb db eb (N + 8) m (fun k => if k = (st : Int) + (at_ : Int) then t else V k) := by
  have H := Lib.hid h
  have S := Lib.hid hs
  have HT := Lib.hid ht
  clear h hs ht
  go_enter Tryz.func82, Tryz.ntmps82
  go_upto_region 1 with fail
  refine wp_region_still_tail 9 (by kernel_rfl) (by kernel_rfl) ?_
  simp only [List.take_succ_cons, List.take_zero, List.drop_succ_cons, List.drop_zero]
  have H1 : Hid (WI x v0 ({ w with drawn := w.drawn + 1 } : World) wb sb st ln rv pb xb qb R at_ len sum false) := Lib.hid (H.out.below ⟨rfl, rfl, rfl, Nat.le_refl _, fun _ _ => rfl⟩)
  have S1 : Hid (SV x c0 d0 ({ w with drawn := w.drawn + 1 } : World) sb db eb N m V) := Lib.hid (S.out.blocks24 _ ⟨rfl, rfl, rfl, Nat.le_refl _, fun _ _ => rfl⟩)
  have F1 : Hid (Fr x x (fun e => PC c0 d0 e ∨ e = v0) w ({ w with drawn := w.drawn + 1 } : World)) := Lib.hid (Fr.same rfl rfl rfl rfl (fun _ _ _ => rfl))
  clear H S
  generalize ({ w with drawn := w.drawn + 1 } : World) = W1 at H1 S1 F1 ⊢
  obtain ⟨-, -, -, -, c4, -, -, -, -, cf, p0, q0, -, r0⟩ := H1.out.cells
  repeat still_step
  refine wpStill_nil ?_
  go_wp2_with fail
  refine (S1.out.write hcd (no := (st : Int) + (at_ : Int)) (by omega) (by omega) HT.out hN).mono ?_
  rintro e w2 ⟨rfl, x2, f2, s2⟩
  have H2 := Lib.hid (H1.out.frame f2 hv)
  have S2 := Lib.hid s2
  have F2 := Lib.hid (F1.out.trans (f2.mono (fun e he => .inl he)))
  clear f2 s2 c4 cf p0 q0 r0 H1 S1 F1
  obtain ⟨-, -, -, -, c4, -, -, -, -, cf, -, -, -, r0⟩ := H2.out.cells
  have f4 := cf 4
  have K := H2.out.setAt 4 (.int .i64 ((at_ : Int) + 1)) rv R (at_ + 1) len sum false rfl H2.out.row H2.out.xr
  have H3 := Lib.hid K.2
  have S3 := Lib.hid (S2.out.frame K.1 (fun e he hc => hv v0 ⟨by omega, by omega⟩ (by rw [← hc]; exact PD_PC c0 d0 _ he)))
  have F3 := Lib.hid (F2.out.trans (K.1.mono (fun e he => .inr he)))
  clear K cf H2 S2 F2
  go_upto_region 3 with fail
  generalize w2.setCell ⟨wb, 4, none⟩ _ = W3 at H3 S3 F3 ⊢
  refine wp_region_still_tail 11 (by kernel_rfl) (by kernel_rfl) ?_
  simp only [List.take_succ_cons, List.take_zero, List.drop_succ_cons, List.drop_zero]
  have H4 : Hid (WI x2 v0 ({ W3 with drawn := W3.drawn + 1 } : World) wb sb st ln rv pb xb qb R (at_ + 1) len sum false) := Lib.hid (H3.out.below ⟨rfl, rfl, rfl, Nat.le_refl _, fun _ _ => rfl⟩)
  have S4 : Hid (SV x2 c0 d0 ({ W3 with drawn := W3.drawn + 1 } : World) sb db eb (N + 8) m (fun k => if k = (st : Int) + (at_ : Int) then t else V k)) := Lib.hid (S3.out.blocks24 _ ⟨rfl, rfl, rfl, Nat.le_refl _, fun _ _ => rfl⟩)
  have F4 : Hid (Fr x x2 (fun e => PC c0 d0 e ∨ e = v0) w ({ W3 with drawn := W3.drawn + 1 } : World)) := Lib.hid (F3.out.trans (Fr.same rfl rfl rfl rfl (fun _ _ _ => rfl)))
  clear H3 S3 F3 c4 r0 f4
  generalize ({ W3 with drawn := W3.drawn + 1 } : World) = W4 at H4 S4 F4 ⊢
  obtain ⟨-, -, -, -, -, -, -, -, c8, cf, -, -, -, r0⟩ := H4.out.cells
  have f8 := cf 8
  have K := H4.out.setAt 8 (.bool false) rv R (at_ + 1) len sum false rfl H4.out.row H4.out.xr
  have H5 := Lib.hid K.2
  have S5 := Lib.hid (S4.out.frame K.1 (fun e he hc => hv v0 ⟨by omega, by omega⟩ (by rw [← hc]; exact PD_PC c0 d0 _ he)))
  have F5 := Lib.hid (F4.out.trans (K.1.mono (fun e he => .inr he)))
  clear K cf H4 S4 F4
  repeat still_step
  refine wpStill_nil ?_
  go_wp2_with fail
  go_ret
  exact ⟨rfl, x2, F5.out, H5.out, S5.out⟩

end Go.Proofs.YtbgbomlmgkgkoaaGreat.st

namespace Go.Proofs.YtbgbomlmgkgkoaaGreat.st
open Go.RowKit Go.Proofs.YtbgbomlmgkgkoaaGreat.own Go.Proofs.YtbgbomlmgkgkoaaGreat.dv Go.Proofs.YtbgbomlmgkgkoaaGreat.po Go.Proofs.YtbgbomlmgkgkoaaGreat.arcI

structure CR (w : World) (b2 b3 sb st ln n0 : Nat) (W : World) : Prop where
  h2 : W.heap[b2]? = some (.cells #[.pointer (some ⟨sb, 0, none⟩)] 25 (0, 0))
  h3 : W.heap[b3]? = some (.cells #[.int .i64 (st : Int), .int .i64 (ln : Int)] 34 (0, 0))
  l2 : b2 < n0
  l3 : b3 < n0
  le : n0 ≤ W.heap.size
  bw : Below w.heap.size w W
theorem CR.cells {w : World} {b2 b3 sb st ln n0 : Nat} {W : World} (h : CR w b2 b3 sb st ln n0 W) : W.cell? ⟨b2, 0, none⟩ = some (.pointer (some ⟨sb, 0, none⟩)) ∧ W.cell? ⟨b3, 0, none⟩ = some (.int .i64 (st : Int)) ∧ W.cell? ⟨b3, 1, none⟩ = some (.int .i64 (ln : Int)) := by
  refine ⟨?_, ?_, ?_⟩
  · rw [cell_of_row _ _ _ _ _ _ h.h2]; rfl
  · rw [cell_of_row _ _ _ _ _ _ h.h3]; rfl
  · rw [cell_of_row _ _ _ _ _ _ h.h3]; rfl
theorem CR.next {w : World} {b2 b3 sb st ln n0 : Nat} {W W' : World} (h : CR w b2 b3 sb st ln n0 W) (hb : Below W.heap.size W W') : CR w b2 b3 sb st ln n0 W' :=
  ⟨(hb.block _ (lt_of_block h.h2)).trans h.h2, (hb.block _ (lt_of_block h.h3)).trans h.h3, h.l2, h.l3, Nat.le_trans h.le hb.size, h.bw.trans (hb.mono h.bw.size)⟩
theorem CR.drew {w : World} {b2 b3 sb st ln n0 : Nat} {W : World} (h : CR w b2 b3 sb st ln n0 W) : CR w b2 b3 sb st ln n0 W.drew := h.next ((Below.refl _ _).drew)
theorem CR.drewN {w : World} {b2 b3 sb st ln n0 : Nat} {W : World} (h : CR w b2 b3 sb st ln n0 W) (k : Nat) : CR w b2 b3 sb st ln n0 (W.drewN k) := h.next ⟨rfl, rfl, rfl, Nat.le_refl _, fun _ _ => rfl⟩
theorem CR.alloc {w : World} {b2 b3 sb st ln n0 : Nat} {W : World} (h : CR w b2 b3 sb st ln n0 W) (o : Obj) : CR w b2 b3 sb st ln n0 (W.alloc o) := h.next ((Below.refl _ _).alloc (Nat.le_refl _) _)

theorem CR.set {w : World} {b2 b3 sb st ln n0 : Nat} {W : World} (h : CR w b2 b3 sb st ln n0 W) {q : Nat} (hq : n0 ≤ q) (hw : w.heap.size ≤ q) (v : Value) : CR w b2 b3 sb st ln n0 (W.setCell ⟨q, 0, none⟩ v) :=
  ⟨(Below.heap_setCell _ _ _ _ (by have := h.l2; show b2 ≠ q; omega)).trans h.h2, (Below.heap_setCell _ _ _ _ (by have := h.l3; show b3 ≠ q; omega)).trans h.h3, h.l2, h.l3, by have := h.le; simpa using this, h.bw.setCell (p := ⟨q, 0, none⟩) hw v⟩
def wr0 (sb st ln : Nat) : Obj := .cells #[.pointer (some ⟨sb, 0, none⟩), .int .i64 (st : Int), .int .i64 (ln : Int), .slice none 0 0, .int .i64 0, .int .i64 0, .int .u32 (onS 0 []), .nilFunc, .bool false] 188
structure CRel (w : World) (b2 b3 sb st ln n1 qb wb : Nat) (wc : World) : Prop where
  c : CR w b2 b3 sb st ln n1 wc
  lq : n1 ≤ qb
  lw : n1 ≤ wb
  hq : wc.heap[qb]? = some (.cells #[.pointer (some ⟨wb, 0, none⟩)] 95 (0, 0))
  hw : wc.heap[wb]? = some (wr0 sb st ln)
theorem cr_a {w : World} {b2 b3 sb st ln n1 : Nat} {W : World} (h : CR w b2 b3 sb st ln n1 W) : CRel w b2 b3 sb st ln n1 (W.heap.size + 1) W.heap.size ((W.alloc (wr0 sb st ln)).alloc (.cells #[.pointer (some ⟨W.heap.size, 0, none⟩)] 95)) := by
  have g := World.alloc_heap_new (W.alloc (wr0 sb st ln)) (.cells #[.pointer (some ⟨W.heap.size, 0, none⟩)] 95)
  rw [World.size_alloc] at g
  exact ⟨(h.alloc _).alloc _, by have := h.le; omega, h.le, g, (Below.heap_alloc _ _ _ (by rw [World.size_alloc]; omega)).trans (World.alloc_heap_new W _)⟩
theorem cr_b {w : World} {b2 b3 sb st ln n1 : Nat} {W : World} (h : CR w b2 b3 sb st ln n1 W) : CRel w b2 b3 sb st ln n1 W.heap.size (W.heap.size + 1) ((W.alloc (.cells #[.pointer (some ⟨W.heap.size + 1, 0, none⟩)] 95)).alloc (wr0 sb st ln)) := by
  have g := World.alloc_heap_new (W.alloc (.cells #[.pointer (some ⟨W.heap.size + 1, 0, none⟩)] 95)) (wr0 sb st ln)
  rw [World.size_alloc] at g
  exact ⟨(h.alloc _).alloc _, h.le, by have := h.le; omega, (Below.heap_alloc _ _ _ (by rw [World.size_alloc]; omega)).trans (World.alloc_heap_new W _), g⟩
theorem cr_c {w : World} {b2 b3 sb st ln n1 : Nat} {W : World} (h : CR w b2 b3 sb st ln n1 W) {q : Nat} (hq : n1 ≤ q) (hw : w.heap.size ≤ q) (g : W.heap[q]? = some (.cells #[.pointer none] 95 (0, 0))) : CRel w b2 b3 sb st ln n1 q W.heap.size ((W.setCell ⟨q, 0, none⟩ (.pointer (some ⟨W.heap.size, 0, none⟩))).alloc (wr0 sb st ln)) := by
  have z : (W.setCell ⟨q, 0, none⟩ (.pointer (some ⟨W.heap.size, 0, none⟩))).heap.size = W.heap.size := by simp
  have g2 := World.alloc_heap_new (W.setCell ⟨q, 0, none⟩ (.pointer (some ⟨W.heap.size, 0, none⟩))) (wr0 sb st ln)
  rw [z] at g2
  exact ⟨(h.set hq hw _).alloc _, hq, h.le, (Below.heap_alloc _ _ _ (by rw [z]; exact lt_of_block g)).trans (by rw [heap_setCell_same W q 0 _ _ _ g]; rfl), g2⟩
set_option maxRecDepth 100000 in
set_option maxHeartbeats 1600000 in
theorem Create_any (x : Nat → Nat) (v0 c0 d0 : Nat) (w : World) (sb db eb N m st ln : Nat) (V : Int → ByteArray) (hs : SV x c0 d0 w sb db eb N m V) (h1 : 1 ≤ ln) (h2 : st + ln ≤ 24) :
    Calls Tryz.prog 32 #[.pointer (some ⟨sb, 0, none⟩), .agg #[.int .i64 (st : Int), .int .i64 (ln : Int)]] w fun e w' => ∃ wb pb xb qb x', e = .returned (.tuple #[.pointer (some ⟨wb, 0, none⟩), .int .i64 0]) ∧
      Fr x x' (VC v0) w w' ∧ WI x' v0 w' wb sb st ln (.slice none 0 0) pb xb qb [] 0 0 (onS 0 []) false ∧ Below w.heap.size w w' ∧ ∀ b, b < w.heap.size → x' b = x b := by
  have S := Lib.hid hs
  clear hs
  go_enter Tryz.func32, Tryz.ntmps32
  go_upto_region 1 with fail
  have C1 : Hid (CR w w.heap.size (w.heap.size + 1) sb st ln ((w.alloc (.cells #[.pointer (some ⟨sb, 0, none⟩)] 25)).alloc (.cells #[.int .i64 (st : Int), .int .i64 (ln : Int)] 34)).heap.size ((w.alloc (.cells #[.pointer (some ⟨sb, 0, none⟩)] 25)).alloc (.cells #[.int .i64 (st : Int), .int .i64 (ln : Int)] 34))) := Lib.hid (by
    have g1 := World.alloc_heap_new w (.cells #[.pointer (some ⟨sb, 0, none⟩)] 25)
    have g2 := World.alloc_heap_new (w.alloc (.cells #[.pointer (some ⟨sb, 0, none⟩)] 25)) (.cells #[.int .i64 (st : Int), .int .i64 (ln : Int)] 34)
    rw [World.size_alloc] at g2
    have b1 : Below w.heap.size w (w.alloc (.cells #[.pointer (some ⟨sb, 0, none⟩)] 25)) := (Below.refl _ w).alloc (Nat.le_refl _) _
    exact ⟨(Below.heap_alloc _ _ _ (by rw [World.size_alloc]; omega)).trans g1, g2, by rw [World.size_alloc, World.size_alloc]; omega, by rw [World.size_alloc, World.size_alloc]; omega, Nat.le_refl _, b1.alloc b1.size _⟩)
  generalize World.alloc (World.alloc w _) _ = W1 at C1 ⊢
  generalize hn1 : W1.heap.size = n1 at C1
  have HN1 := Lib.hid hn1
  clear hn1
  obtain ⟨b2, hb2⟩ : ∃ b2, w.heap.size = b2 := ⟨_, rfl⟩
  obtain ⟨b3, hb3⟩ : ∃ b3, w.heap.size + 1 = b3 := ⟨_, rfl⟩
  rw [hb3] at C1 ⊢
  rw [hb2] at C1 ⊢
  have HB2 := Lib.hid hb2
  have HB3 := Lib.hid hb3
  clear hb2 hb3
  have C1 : Hid (CR w b2 b3 sb st ln n1 W1) := C1
  go_cut [6] from 8 to 13 (fun s6 wc => ∃ qb wb, s6 = .pointer (some ⟨qb, 0, none⟩) ∧ CRel w b2 b3 sb st ln n1 qb wb wc)
  case first => as_aux_lemma =>
    have C1 := C1.out
    have NL : n1 ≤ W1.heap.size := by rw [HN1.out]; exact Nat.le_refl _
    have NW : w.heap.size ≤ W1.heap.size := C1.bw.size
    have CO := Lib.hid (fun W => Crc_any W ⟨#[]⟩ (by decide))
    go_region_held3 (fun w' => w'.cell? ⟨b2, 0, none⟩ = some (.pointer (some ⟨sb, 0, none⟩)) ∧ w'.cell? ⟨b3, 0, none⟩ = some (.int .i64 (st : Int)) ∧ w'.cell? ⟨b3, 1, none⟩ = some (.int .i64 (ln : Int)))
      ((refine CR.cells (w := w) (n0 := n1) ?_; repeat (first | with_reducible exact C1 | with_reducible exact C2 | with_reducible assumption | with_reducible refine CR.drew ?_ | with_reducible refine CR.drewN ?_ _ | with_reducible refine CR.alloc ?_ _ | with_reducible refine CR.set ?_ NL NW _)))
      (first
      | (go_at_call 51; refine (CO.out ((W1.alloc (.cells #[.pointer none] 95)).drew)).mono ?_; rintro e w2 ⟨rfl, k2⟩; have C2 : CR w b2 b3 sb st ln n1 w2 := CR.next (CR.drew (CR.alloc C1 _)) k2; have g6 : w2.heap[W1.heap.size]? = some (.cells #[.pointer none] 95 (0, 0)) := (k2.block _ (by show W1.heap.size < (W1.heap.push _).size; simp)).trans (World.alloc_heap_new W1 (.cells #[.pointer none] 95)); have z2 : W1.heap.size < w2.heap.size := lt_of_block g6; have q6 : w2.cell? ⟨W1.heap.size, 0, none⟩ = some (.pointer none) := (by rw [cell_of_row _ _ _ _ _ _ g6]; rfl); have q7 : ∀ o, (w2.alloc o).cell? ⟨W1.heap.size, 0, none⟩ = some (.pointer none) := (fun o => by rw [cell_of_row _ _ _ _ _ _ ((Below.heap_alloc _ _ _ z2).trans g6)]; rfl); have f7 : ∀ o, (w2.alloc o).frozen? ⟨W1.heap.size, 0, none⟩ = false := (fun o => frozen_of_row _ _ _ _ _ ((Below.heap_alloc _ _ _ z2).trans g6)); clear q6)
      | (go_at_call 51; refine (CO.out _).mono ?_; rintro e w2 ⟨rfl, k2⟩; have C2 : CR w b2 b3 sb st ln n1 w2 := by (refine CR.next ?_ k2; repeat (first | with_reducible exact C1 | with_reducible refine CR.drew ?_ | with_reducible refine CR.drewN ?_ _ | with_reducible refine CR.alloc ?_ _))))
    all_goals
      go_wp2_with fail
      go_meet
      case rel => first | exact ⟨_, _, rfl, cr_a C2⟩ | exact ⟨_, _, rfl, cr_b C2⟩ | exact ⟨_, _, rfl, cr_c C2 NL NW g6⟩
  case rest => as_aux_lemma =>
    obtain ⟨qb, wb, rfl, hC⟩ := hcut
    have CC := Lib.hid hC
    have n1w : w.heap.size ≤ n1 := by rw [← HN1.out]; exact C1.out.bw.size
    have q0 : wc.cell? ⟨qb, 0, none⟩ = some (.pointer (some ⟨wb, 0, none⟩)) := by rw [cell_of_row _ _ _ _ _ _ hC.hq]; rfl
    have c0' : wc.cell? ⟨wb, 0, none⟩ = some (.pointer (some ⟨sb, 0, none⟩)) := by rw [cell_of_row _ _ _ _ _ _ hC.hw]; rfl
    have c1' : wc.cell? ⟨wb, 1, none⟩ = some (.int .i64 (st : Int)) := by rw [cell_of_row _ _ _ _ _ _ hC.hw]; rfl
    have c2' : wc.cell? ⟨wb, 2, none⟩ = some (.int .i64 (ln : Int)) := by rw [cell_of_row _ _ _ _ _ _ hC.hw]; rfl
    clear hC
    go_wp2_with fail
    have bwc := CC.out.c.bw
    refine (check_any x c0 d0 sb db eb N m V wc st ln (S.out.blocks24 wc bwc) h1 h2).mono ?_
    rintro e w3 ⟨rfl, hb3⟩
    have C3 := Lib.hid (CC.out.c.next hb3)
    have G3 : Hid (w3.heap[wb]? = some (wr0 sb st ln)) := Lib.hid ((hb3.block _ (lt_of_block CC.out.hw)).trans CC.out.hw)
    have Q3 : Hid (w3.heap[qb]? = some (.cells #[.pointer (some ⟨wb, 0, none⟩)] 95 (0, 0))) := Lib.hid ((hb3.block _ (lt_of_block CC.out.hq)).trans CC.out.hq)
    have LQ := CC.out.lq
    have LW := CC.out.lw
    clear bwc hb3 q0 c0' c1' c2' CC
    have q0 : w3.cell? ⟨qb, 0, none⟩ = some (.pointer (some ⟨wb, 0, none⟩)) := by rw [cell_of_row _ _ _ _ _ _ Q3.out]; rfl
    have c7' : w3.cell? ⟨wb, 7, none⟩ = some .nilFunc := by rw [cell_of_row _ _ _ _ _ _ G3.out]; rfl
    have cf : w3.frozen? ⟨wb, 7, none⟩ = false := frozen_of_row _ _ _ _ _ G3.out
    have qne : ¬ qb = wb := fun e => by have a := Q3.out; rw [e, G3.out] at a; simp [wr0] at a
    have HC : Hid (Fr x (paint x w.heap.size (v0 + 2)) (VC v0) w w3) := Lib.hid (Fr.of_below C3.out.bw ⟨by omega, by omega⟩)
    go_wp2_with fail
    go_ret2
    have c3 := C3.out
    obtain ⟨x', hx'⟩ : ∃ x' : Nat → Nat, x' = fun b => if b < w.heap.size then x b else if b = wb then v0 else v0 + 2 := ⟨_, rfl⟩
    have xo : ∀ b, b < w.heap.size → x' b = x b := fun b hb => by rw [hx']; exact if_pos hb
    have xn : ∀ b, w.heap.size ≤ b → x' b = if b = wb then v0 else v0 + 2 := fun b hb => by rw [hx']; exact if_neg (by omega)
    have lwb := lt_of_block G3.out
    have g7 := heap_setCell_same w3 wb 7 _ _ (.func (.func 82) #[] #[.pointer (some ⟨b2, 0, none⟩), .pointer (some ⟨b3, 0, none⟩), .pointer (some ⟨qb, 0, none⟩)]) G3.out
    have l2 := C3.out.l2
    have l3 := C3.out.l3
    have z2 := HB2.out
    have z3 := HB3.out
    have bw := c3.bw.setCell (p := ⟨wb, 7, none⟩) (by show w.heap.size ≤ wb; omega) (.func (.func 82) #[] #[.pointer (some ⟨b2, 0, none⟩), .pointer (some ⟨b3, 0, none⟩), .pointer (some ⟨qb, 0, none⟩)])
    refine ⟨wb, b2, b3, qb, x', rfl, ⟨bw.os, bw.tape, bw.output, bw.size, xo, fun b hb _ => ?_, fun b hb hC => bw.block b hb⟩, ⟨g7, ?_, World.ownsRow_nil _ _ _ _, fun b hb => by simp [Value.ownBlock] at hb, (Below.heap_setCell _ _ _ _ (by show b2 ≠ wb; omega)).trans c3.h2, ?_, (Below.heap_setCell _ _ _ _ (by show b3 ≠ wb; omega)).trans c3.h3, ?_, (Below.heap_setCell _ _ _ _ qne).trans Q3.out, ?_⟩, bw, xo⟩
    · rw [xn b hb]
      by_cases e : b = wb
      · rw [if_pos e]; exact ⟨by omega, by omega⟩
      · rw [if_neg e]; exact ⟨by omega, by omega⟩
    · rw [xn wb (by omega), if_pos rfl]
    · rw [xn b2 (by omega), if_neg (by omega)]
    · rw [xn b3 (by omega), if_neg (by omega)]
    · rw [xn qb (by omega), if_neg qne]

end Go.Proofs.YtbgbomlmgkgkoaaGreat.st

namespace Go.Proofs.YtbgbomlmgkgkoaaGreat.own
open Go Go.RowKit Go.Proofs.YtbgbomlmgkgkoaaGreat.ev

theorem setCells_rowK (w : World) (g o : Nat) (e : TypeId) (cur : Array Value) (news : List Value) (hg : w.heap[g]? = some (.cells cur e (0, 0))) (hfit : o + news.length ≤ cur.size) (h1 : ∀ u ∈ news, u.oneCell' = true) :
    w.setCells g o news = w.setRow g (cur.toList.take o ++ news ++ cur.toList.drop (o + news.length)).toArray := by
  have a := run_storeCells_cells (P := default) g o news 0 w (fun j hj => by rw [Nat.add_zero, cell_of_row _ _ _ _ _ _ hg, Array.getElem?_eq_getElem (by omega)]; rfl) (fun j hj => frozen_of_row _ _ _ _ _ hg) h1
  have b := run_storeCells_at default g o e news 0 cur w hg (by simpa using hfit) h1
  simp only [Nat.add_zero] at a b
  rw [a] at b
  injection b
theorem run_append_k {P : Program} (w : World) (base : Nat) (t tx ty e : TypeId) (i : TypeInfo) (z : Value) (hi : i.size = 1) (hz : i.zero = some z) (hzs : z.cells.size = 1) (hby : i.bytes ≤ 16)
    (v : Value) (n : Nat) (xs : List Value) (hown : w.ownsRow base e 1 v n xs) (x : Value) (m : Nat) (news : List Value) (hs : SrcK P t tx e i x m news w) (h1 : ∀ u ∈ news, u.oneCell' = true) (hsm : n + m ≤ 1099511627776) (hbase : base ≤ w.heap.size) :
    ∃ v' w', (Builtin.append_ #[t, tx] ty #[v, x]).run P w = .ok v' w' ∧ w'.ownsRow base e 1 v' (n + m) (xs ++ news) ∧ w.grownBy w' v.ownBlock ∧ (v'.ownBlock = v.ownBlock ∨ v'.ownBlock = some w.heap.size) ∧ w'.ownsRow base e 1 v n xs := by
  have hnl : news.length = m := by rw [hs.len, hi, Nat.mul_one]
  have hxl : xs.length = n := by simpa using hown.1
  have hml : n + m ≤ maxLen := by simp only [maxLen]; omega
  have hlen : (xs ++ news).length = (n + m) * 1 := by rw [List.length_append, hxl, hnl, Nat.mul_one]
  have fits : ∀ old, old < n + m → Builtin.nextslicecap (n + m) old * i.bytes ≤ 281474976710656 := fun old ho => growslice_fits (by omega) (by
    have := Nat.mul_le_mul hsm hby
    omega)
  have grown : ∀ (old : Nat), old < n + m → ∀ (row : Option Nat),
      (w.drew.alloc (.cells ((xs ++ news).toArray ++ Builtin.zeroCells z.cells (grownCap w (n + m) old e - (n + m))) e)).ownsRow base e 1
        (.slice (some ⟨w.heap.size, 0, none⟩) (n + m) (grownCap w (n + m) old e)) (n + m) (xs ++ news) ∧
      w.grownBy (w.drew.alloc (.cells ((xs ++ news).toArray ++ Builtin.zeroCells z.cells (grownCap w (n + m) old e - (n + m))) e)) row := by
    intro old ho row
    have hge := grownCap_ge w (n + m) old e
    have hcm : grownCap w (n + m) old e ≤ maxLen := grownCap_le_maxLen w (n + m) old e hml
    refine ⟨⟨hlen, .inr ⟨w.heap.size, _, _, rfl, hbase, heap_alloc_new w.drew _, hge, hcm, ?_, ?_⟩⟩, ⟨rfl, rfl, rfl, by simp, fun k hk _ => Below.heap_alloc w.drew _ k hk⟩⟩
    · simp only [Array.size_append, List.size_toArray, size_zeroCells, hzs, hlen]
      omega
    · simp only [Array.toList_append]
      rw [← hlen]
      exact List.take_left
  rcases hown.2 with ⟨rfl, rfl⟩ | ⟨g, cap, cur, rfl, hbg, hg, hnc, hcm, hcs, htake⟩
  · have hx : xs = [] := List.eq_nil_of_length_eq_zero hxl
    subst hx
    by_cases hm : m = 0
    · subst hm
      have hn : news = [] := List.eq_nil_of_length_eq_zero hnl
      subst hn
      exact ⟨_, w, hs.nothing rfl ty none 0 0 (Nat.le_refl _), World.ownsRow_nil w base e 1, ⟨rfl, rfl, rfl, Nat.le_refl _, fun _ _ _ => rfl⟩, .inl rfl, World.ownsRow_nil w base e 1⟩
    · have hr := hs.grow ty z hz none 0 0 [] (by simp [Builtin.firstCells]) (by omega) (by omega) (fits 0 (by omega))
      have hgr := grown 0 (by omega) (Value.ownBlock (.slice none 0 0))
      exact ⟨_, _, hr, hgr.1, hgr.2, .inr rfl, World.ownsRow_nil _ _ _ _⟩
  · have hcs' : cur.size = cap := by simpa using hcs
    by_cases hroom : n + m ≤ cap
    · have hr := hs.room ty g 0 n cap hroom (fun j hj => by
        rw [hi, Nat.mul_one, Nat.zero_add, cell_of_row _ _ _ _ _ _ hg, Array.getElem?_eq_getElem (by omega)]; rfl) (fun j hj => frozen_of_row _ _ _ _ _ hg)
      rw [hi, Nat.mul_one, Nat.zero_add, setCells_rowK w g n e cur news hg (by omega) h1] at hr
      refine ⟨_, _, hr, ⟨hlen, .inr ⟨g, cap, _, rfl, hbg, setRow_heap w g cur _ e _ hg, hroom, hcm, ?_, ?_⟩⟩, ⟨rfl, rfl, rfl, by simp, fun k _ hk => setRow_other w g k _ (fun e => hk (by simp [Value.ownBlock, e]))⟩, .inl rfl, ⟨hown.1, .inr ⟨g, cap, _, rfl, hbg, setRow_heap w g cur _ e _ hg, hnc, hcm, ?_, ?_⟩⟩⟩
      · simp only [List.size_toArray, List.length_append, List.length_take, List.length_drop, Array.length_toList, hnl]
        omega
      · have ht' : cur.toList.take n = xs := by simpa using htake
        rw [ht', ← hlen]
        exact List.take_left
      · simp only [List.size_toArray, List.length_append, List.length_take, List.length_drop, Array.length_toList, hnl]
        omega
      · have ht' : cur.toList.take n = xs := by simpa using htake
        rw [ht', Nat.mul_one, ← hxl, List.append_assoc]
        exact List.take_left
    · have holds : ∀ j u, xs[j]? = some u → w.cell? ((⟨g, 0, none⟩ : Addr).add j) = some u := hown.cells (g := g) rfl
      have hf := run_firstCells_some (P := P) w.drew i.size n ⟨g, 0, none⟩ n cap xs (by rw [hi, Nat.mul_one]; exact hxl) holds
      have hr := hs.grow ty z hz (some ⟨g, 0, none⟩) n cap xs hf (by omega) (by omega) (fits cap (by omega))
      have hgr := grown cap (by omega) (Value.ownBlock (.slice (some ⟨g, 0, none⟩) n cap))
      exact ⟨_, _, hr, hgr.1, hgr.2, .inr rfl, hown.kept (grown cap (by omega) none).2 (.inr (fun q => by simp [Value.ownBlock] at q))⟩

theorem wpList_append_k {P : Program} (w : World) {ops : Array Oper} {rest : List Oper} {o : Oper} {a : Act} {Q : Exit → Act → World → Prop} (hgd : o.guard = none) (s x : Operand) (t tx : TypeId)
    (ho : o.op = .call { callee := .builtin .append, args := #[s, x], argTypes := #[t, tx] })
    (base : Nat) (e : TypeId) (i : TypeInfo) (z : Value) (hi : i.size = 1) (hz : i.zero = some z) (hzs : z.cells.size = 1) (hby : i.bytes ≤ 16)
    (v : Value) (n : Nat) (xs : List Value) (hv : a.eval s = v) (hown : w.ownsRow base e 1 v n xs) (u : Value) (m : Nat) (news : List Value) (hx : a.eval x = u) (hs : SrcK P t tx e i u m news w) (h1 : ∀ y ∈ news, y.oneCell' = true) (hsm : n + m ≤ 1099511627776) (hbase : base ≤ w.heap.size)
    (h : ∀ v' w', w'.ownsRow base e 1 v' (n + m) (xs ++ news) → w.grownBy w' v.ownBlock → (v'.ownBlock = v.ownBlock ∨ v'.ownBlock = some w.heap.size) → wpList P ops Q rest (a.put o.dst v') w') :
    wpList P ops Q (o :: rest) a w := by
  refine wpList_plain hgd fun K hK => ?_
  obtain ⟨v', w', hr, h2, h3, h4, -⟩ := run_append_k (P := P) w base t tx o.type e i z hi hz hzs hby v n xs hown u m news hs h1 hsm hbase
  unfold Oper.wp execOp
  simp only [ho, resolve, invoke, builtin, Sem.run_bind, Sem.run_pure, Result.andThen_ok, List.map_toArray, List.map_cons, List.map_nil, hv, hx, hr]
  exact hK _ _ (h v' w' h2 h3 h4)

end Go.Proofs.YtbgbomlmgkgkoaaGreat.own

namespace Go.Proofs.YtbgbomlmgkgkoaaGreat.st
open Go.RowKit Go.Proofs.YtbgbomlmgkgkoaaGreat.own Go.Proofs.YtbgbomlmgkgkoaaGreat.dv Go.Proofs.YtbgbomlmgkgkoaaGreat.po Go.Proofs.YtbgbomlmgkgkoaaGreat.arcI

theorem Room_any (x : Nat → Nat) (v0 c0 d0 : Nat) (w : World) (wb sb db eb N m st ln : Nat) (V : Int → ByteArray) (rv : Value) (pb xb qb : Nat) (R : List UInt8) (at_ len : Nat) (sum : Int) (h : WI x v0 w wb sb st ln rv pb xb qb R at_ len sum false) (hs : SV x c0 d0 w sb db eb N m V) (h1 : 1 ≤ ln) (h2 : ln ≤ 24) (h3 : len ≤ ln * (512 * m) - 12) :
    Calls Tryz.prog 39 #[.pointer (some ⟨wb, 0, none⟩)] w fun e w' => e = .returned (.int .i64 ((ln * (512 * m) - 12 - len : Nat) : Int)) ∧ Below w.heap.size w w' := by
  have H := Lib.hid h
  have RM := Lib.hid (fun (W : World) (hb : Below w.heap.size w W) => room_any x c0 d0 sb db eb N m V W st ln (hs.blocks24 W hb) h1 h2)
  have hm := hs.size
  obtain ⟨c0', c1', c2', -, -, c5', -, -, c8', -⟩ := h.cells
  obtain ⟨p, hp⟩ : ∃ p, ln * (512 * m) - 12 = p := ⟨_, rfl⟩
  have hp3 : p ≤ 98304 := by rw [← hp]; have := Nat.mul_le_mul h2 (show 512 * m ≤ 4096 by omega); omega
  rw [hp] at RM h3
  have HP := Lib.hid hp
  have e2 : ((p : Int) - (len : Int)) = ((p - len : Nat) : Int) := by omega
  have e3 : IntKind.i64.wrap ((p - len : Nat) : Int) = ((p - len : Nat) : Int) := IntWalk.i64_in _ (by omega)
  clear h hs hp
  unfold placeV at RM
  go_enter Tryz.func39, Tryz.ntmps39
  go_upto_region 3 with fail
  go_region_held3 (fun w' => w'.cell? ⟨wb, 0, none⟩ = some (.pointer (some ⟨sb, 0, none⟩)) ∧ w'.cell? ⟨wb, 1, none⟩ = some (.int .i64 (st : Int)) ∧ w'.cell? ⟨wb, 2, none⟩ = some (.int .i64 (ln : Int)) ∧ w'.cell? ⟨wb, 5, none⟩ = some (.int .i64 (len : Int)) ∧ Below w.heap.size w w')
    (first
    | (with_reducible assumption)
    | (exact ⟨c0', c1', c2', c5', (Below.refl _ _).drew⟩)
    | (exact R2.out))
    (first
    | (go_at_call 50; refine (RM.out _ (by first | exact (Below.refl _ _).drew | exact Below.refl _ _ | exact bel_drewN (Below.refl _ _) _)).mono ?_; rintro e w2 ⟨rfl, k2⟩; have k3 : Below w.heap.size w w2 := ⟨k2.os, k2.tape, k2.output, k2.size, k2.block⟩; have R2 := Lib.hid (by (obtain ⟨q0, q1, q2, -, -, q5, -⟩ := (H.out.below k3).cells; exact ⟨q0, q1, q2, q5, k3⟩) : w2.cell? ⟨wb, 0, none⟩ = some (.pointer (some ⟨sb, 0, none⟩)) ∧ w2.cell? ⟨wb, 1, none⟩ = some (.int .i64 (st : Int)) ∧ w2.cell? ⟨wb, 2, none⟩ = some (.int .i64 (ln : Int)) ∧ w2.cell? ⟨wb, 5, none⟩ = some (.int .i64 (len : Int)) ∧ Below w.heap.size w w2)))
  all_goals
    go_wp2_with fail
    go_ret
    exact ⟨by rw [HP.out]; rfl, k3⟩

theorem bv_append (a b : List UInt8) : bv a ++ bv b = bv (a ++ b) := by simp [bv]
theorem bv_str (s : ByteArray) : Go.byteCells s = bv s.data.toList := rfl
theorem bv_one (l : List UInt8) : ∀ y ∈ bv l, y.oneCell' = true := by intro y hy; obtain ⟨b, _, rfl⟩ := List.mem_map.1 hy; rfl
/-- what stands in the blocks that are full -/
def CT (V : Int → ByteArray) (st sz : Nat) (T : List UInt8) (a : Nat) : Prop := ∀ j, j < a → (V ((st : Int) + (j : Int))).data.toList = (T.drop (j * sz)).take sz
/-- a writer of the bytes T -/
def WT (x : Nat → Nat) (v0 : Nat) (w : World) (wb sb st ln sz : Nat) (T : List UInt8) : Prop := ∃ rv pb xb qb, WI x v0 w wb sb st ln rv pb xb qb (T.drop (T.length / sz * sz)) (T.length / sz) T.length (onS 0 T) false
theorem onF_append (c : Int) (a b : List UInt8) : onF (onF c a) b = onF c (a ++ b) := by unfold onF; rw [List.foldl_append]

/-- on the way through a writer's call -/
def WC (c0 d0 v0 : Nat) : Nat → Prop := fun e => PC c0 d0 e ∨ VC v0 e
structure WS (x : Nat → Nat) (v0 c0 d0 : Nat) (w : World) (wb sb db eb N m st ln : Nat) (V : Int → ByteArray) (rv : Value) (pb xb qb : Nat) (R : List UInt8) (at_ len : Nat) (sum : Int) (dn : Bool) (wr : World) : Prop where
  hv : ∀ e, VC v0 e → ¬ PC c0 d0 e
  hx : ∃ x', Fr x x' (WC c0 d0 v0) w wr ∧ WI x' v0 wr wb sb st ln rv pb xb qb R at_ len sum dn ∧ SV x' c0 d0 wr sb db eb N m V
section
variable {x : Nat → Nat} {v0 c0 d0 : Nat} {w : World} {wb sb db eb N m st ln : Nat} {V : Int → ByteArray} {rv : Value} {pb xb qb : Nat} {R : List UInt8} {at_ len : Nat} {sum : Int} {dn : Bool} {wr : World}
theorem WS.start (h : WI x v0 w wb sb st ln rv pb xb qb R at_ len sum dn) (hs : SV x c0 d0 w sb db eb N m V) (hv : ∀ e, VC v0 e → ¬ PC c0 d0 e) : WS x v0 c0 d0 w wb sb db eb N m st ln V rv pb xb qb R at_ len sum dn w := ⟨hv, x, Fr.refl _ _ _, h, hs⟩
theorem WS.below (h : WS x v0 c0 d0 w wb sb db eb N m st ln V rv pb xb qb R at_ len sum dn wr) {wc : World} (hb : Below wr.heap.size wr wc) : WS x v0 c0 d0 w wb sb db eb N m st ln V rv pb xb qb R at_ len sum dn wc := by
  obtain ⟨hv, x', f, i, s⟩ := h
  have f2 : Fr x' (paint x' wr.heap.size (v0 + 1)) (fun e => e = v0 + 1) wr wc := Fr.of_below hb rfl
  refine ⟨hv, paint x' wr.heap.size (v0 + 1), f.trans (f2.mono (fun e he => .inr ⟨by omega, by omega⟩)), ?_, s.frame f2 (fun e he hc => hv (v0 + 1) ⟨by omega, by omega⟩ (by rw [← hc]; exact PD_PC c0 d0 _ he))⟩
  have l0 := lt_of_block i.h0
  have lp := lt_of_block i.hp
  have lx := lt_of_block i.hx
  have lq := lt_of_block i.hq
  have i2 := i.below hb
  exact ⟨i2.h0, by rw [paint_old l0]; exact i.x0, i2.row, fun b hb' => by rw [paint_old (i.row.lt b hb').2]; exact i.xr b hb', i2.hp, by rw [paint_old lp]; exact i.xp, i2.hx, by rw [paint_old lx]; exact i.xx, i2.hq, by rw [paint_old lq]; exact i.xq⟩
theorem WS.mono (h : WS x v0 c0 d0 w wb sb db eb N m st ln V rv pb xb qb R at_ len sum dn wr) {N' : Nat} (hN : N ≤ N') : WS x v0 c0 d0 w wb sb db eb N' m st ln V rv pb xb qb R at_ len sum dn wr := by
  obtain ⟨hv, x', f, i, s⟩ := h; exact ⟨hv, x', f, i, s.mono hN⟩
theorem WS.cells (h : WS x v0 c0 d0 w wb sb db eb N m st ln V rv pb xb qb R at_ len sum dn wr) :
    wr.cell? ⟨wb, 0, none⟩ = some (.pointer (some ⟨sb, 0, none⟩)) ∧ wr.cell? ⟨wb, 1, none⟩ = some (.int .i64 (st : Int)) ∧ wr.cell? ⟨wb, 2, none⟩ = some (.int .i64 (ln : Int)) ∧ wr.cell? ⟨wb, 3, none⟩ = some rv ∧ wr.cell? ⟨wb, 4, none⟩ = some (.int .i64 (at_ : Int)) ∧ wr.cell? ⟨wb, 5, none⟩ = some (.int .i64 (len : Int)) ∧ wr.cell? ⟨wb, 6, none⟩ = some (.int .u32 sum) ∧
    wr.cell? ⟨wb, 7, none⟩ = some (.func (.func 82) #[] #[.pointer (some ⟨pb, 0, none⟩), .pointer (some ⟨xb, 0, none⟩), .pointer (some ⟨qb, 0, none⟩)]) ∧ wr.cell? ⟨wb, 8, none⟩ = some (.bool dn) ∧ (∀ j, wr.frozen? ⟨wb, j, none⟩ = false) ∧
    wr.cell? ⟨pb, 0, none⟩ = some (.pointer (some ⟨sb, 0, none⟩)) ∧ wr.cell? ⟨xb, 0, none⟩ = some (.int .i64 (st : Int)) ∧ wr.cell? ⟨xb, 1, none⟩ = some (.int .i64 (ln : Int)) ∧ wr.cell? ⟨qb, 0, none⟩ = some (.pointer (some ⟨wb, 0, none⟩)) := by
  obtain ⟨hv, x', f, i, s⟩ := h; exact i.cells
theorem WS.row (h : WS x v0 c0 d0 w wb sb db eb N m st ln V rv pb xb qb R at_ len sum dn wr) : wr.ownsRow 0 5 1 rv R.length (bv R) := by
  obtain ⟨hv, x', f, i, s⟩ := h; exact i.row
/-- a plain field is set -/
theorem WS.set (h : WS x v0 c0 d0 w wb sb db eb N m st ln V rv pb xb qb R at_ len sum dn wr) (o : Nat) (u : Value) (at' len' : Nat) (sum' : Int) (dn' : Bool) (e : (wrCells sb st ln rv at_ len sum pb xb qb dn).setIfInBounds o u = wrCells sb st ln rv at' len' sum' pb xb qb dn') :
    WS x v0 c0 d0 w wb sb db eb N m st ln V rv pb xb qb R at' len' sum' dn' (wr.setCell ⟨wb, o, none⟩ u) := by
  obtain ⟨hv, x', f, i, s⟩ := h
  have K := i.setAt o u rv R at' len' sum' dn' e i.row i.xr
  exact ⟨hv, x', f.trans (K.1.mono (fun e he => .inr ⟨by omega, by omega⟩)), K.2, s.frame K.1 (fun e he hc => hv v0 ⟨by omega, by omega⟩ (by rw [← hc]; exact PD_PC c0 d0 _ he))⟩
/-- the row turned, then it is laid into the writer -/
theorem WS.rest (h : WS x v0 c0 d0 w wb sb db eb N m st ln V rv pb xb qb R at_ len sum dn wr) {row : Option Nat} (hrow : row = rv.ownBlock ∨ row = none) {w1 : World} {v1 : Value} {R1 : List UInt8} (hg : wr.grownBy w1 row) (own1 : w1.ownsRow 0 5 1 v1 R1.length (bv R1)) (hw : v1.ownBlock = row ∨ v1.ownBlock = some wr.heap.size) :
    WS x v0 c0 d0 w wb sb db eb N m st ln V v1 pb xb qb R1 at_ len sum dn (w1.setCell ⟨wb, 3, none⟩ v1) := by
  obtain ⟨hv, x', f, i, s⟩ := h
  have hK : Keeps wr w1 (fun b => row = some b) := (Keeps.refl wr _).grown hg (fun k hk => .inl hk)
  have hro : ∀ b, b < wr.heap.size → row = some b → x' b = v0 + 1 := fun b _ e => by
    rcases hrow with e1 | e1
    · exact i.xr b (by rw [← e1]; exact e)
    · rw [e1] at e; cases e
  have f1 : Fr x' (paint x' wr.heap.size (v0 + 1)) (fun e => e = v0 + 1) wr w1 := hK.fr rfl hro
  have l0 := lt_of_block i.h0
  have lp := lt_of_block i.hp
  have lx := lt_of_block i.hx
  have lq := lt_of_block i.hq
  have g0 : w1.heap[wb]? = _ := (f1.old wb l0 (by rw [i.x0]; omega)).trans i.h0
  have x1 : paint x' wr.heap.size (v0 + 1) wb = v0 := by rw [paint_old l0]; exact i.x0
  have xr1 : ∀ b, v1.ownBlock = some b → paint x' wr.heap.size (v0 + 1) b = v0 + 1 := fun b hb => by
    rcases hw with e | e
    · rw [hb] at e
      by_cases hlt : b < wr.heap.size
      · rw [paint_old hlt]; exact hro b hlt e.symm
      · exact paint_new (by omega)
    · rw [hb] at e
      have := Option.some.inj e
      exact paint_new (by omega)
  have f2 : Fr (paint x' wr.heap.size (v0 + 1)) (paint x' wr.heap.size (v0 + 1)) (fun e => e = v0) w1 (w1.setCell ⟨wb, 3, none⟩ v1) := Fr.same rfl rfl rfl (by simp) (fun b _ hC => Below.heap_setCell w1 _ _ _ (by rintro rfl; exact hC x1))
  have s1 := (s.frame f1 (fun e he hc => hv (v0 + 1) ⟨by omega, by omega⟩ (by rw [← hc]; exact PD_PC c0 d0 _ he))).frame f2 (fun e he hc => hv v0 ⟨by omega, by omega⟩ (by rw [← hc]; exact PD_PC c0 d0 _ he))
  have old : ∀ b, b < wr.heap.size → x' b = v0 + 2 → (w1.setCell ⟨wb, 3, none⟩ v1).heap[b]? = wr.heap[b]? := fun b hb hx => (Below.heap_setCell w1 _ _ _ (by rintro rfl; have a := i.x0; rw [hx] at a; omega)).trans (f1.old b hb (by rw [hx]; omega))
  refine ⟨hv, paint x' wr.heap.size (v0 + 1), (f.trans (f1.mono (fun e he => .inr ⟨by omega, by omega⟩))).trans (f2.mono (fun e he => .inr ⟨by omega, by omega⟩)), ⟨?_, x1, own1.kept (grownBy_setCell_at w1 wb 3 v1) (.inr (fun e => by have a := xr1 wb e; rw [x1] at a; omega)), xr1, (old pb lp i.xp).trans i.hp, by rw [paint_old lp]; exact i.xp, (old xb lx i.xx).trans i.hx, by rw [paint_old lx]; exact i.xx, (old qb lq i.xq).trans i.hq, by rw [paint_old lq]; exact i.xq⟩, s1⟩
  rw [heap_setCell_same w1 wb 3 _ _ _ g0]; rfl
/-- a block is put -/
theorem WS.put (h : WS x v0 c0 d0 w wb sb db eb N m st ln V rv pb xb qb R at_ len sum false wr) (hcd : c0 + 9 < d0 ∨ d0 + 2 < c0) (ha : st + at_ < 24) {t : ByteArray} (ht : t.size = 512 * m) (hN : N + 8 < 1099511627776) :
    Calls Tryz.prog 82 #[.string t, .pointer (some ⟨pb, 0, none⟩), .pointer (some ⟨xb, 0, none⟩), .pointer (some ⟨qb, 0, none⟩)] wr fun e w' => e = .returned (.int .i64 0) ∧
      WS x v0 c0 d0 w wb sb db eb (N + 8) m st ln (fun k => if k = (st : Int) + (at_ : Int) then t else V k) rv pb xb qb R (at_ + 1) len sum false w' := by
  obtain ⟨hv, x', f, i, s⟩ := h
  refine (put_any x' v0 c0 d0 wr wb sb db eb N m st ln V rv pb xb qb R at_ len sum t i s hcd hv ha ht hN).mono ?_
  rintro e w' ⟨rfl, x2, f2, i2, s2⟩
  exact ⟨rfl, hv, x2, f.trans (f2.mono (fun e he => he.imp id (fun he => ⟨by omega, by omega⟩))), i2, s2⟩
theorem WS.Size (h : WS x v0 c0 d0 w wb sb db eb N m st ln V rv pb xb qb R at_ len sum dn wr) : Calls Tryz.prog 16 #[.pointer (some ⟨sb, 0, none⟩)] wr fun e w' => e = .returned (.int .i64 ((512 * m : Nat) : Int)) ∧ wr = w' := by
  obtain ⟨hv, x', f, i, s⟩ := h; exact s.Size
theorem WS.ready (h : WS x v0 c0 d0 w wb sb db eb N m st ln V rv pb xb qb R at_ len sum false wr) : Calls Tryz.prog 84 #[.pointer (some ⟨wb, 0, none⟩)] wr fun e w' => e = .returned (.int .i64 0) ∧ wr = w' := by
  obtain ⟨hv, x', f, i, s⟩ := h; exact wready_any x' v0 wr wb sb st ln rv pb xb qb R at_ len sum i
theorem WS.Room (h : WS x v0 c0 d0 w wb sb db eb N m st ln V rv pb xb qb R at_ len sum false wr) (h1 : 1 ≤ ln) (h2 : ln ≤ 24) (h3 : len ≤ ln * (512 * m) - 12) :
    Calls Tryz.prog 39 #[.pointer (some ⟨wb, 0, none⟩)] wr fun e w' => e = .returned (.int .i64 ((ln * (512 * m) - 12 - len : Nat) : Int)) ∧ Below wr.heap.size wr w' := by
  obtain ⟨hv, x', f, i, s⟩ := h; exact Room_any x' v0 c0 d0 wr wb sb db eb N m st ln V rv pb xb qb R at_ len sum i s h1 h2 h3
end

end Go.Proofs.YtbgbomlmgkgkoaaGreat.st

namespace Go.Proofs.YtbgbomlmgkgkoaaGreat.st
open Go.RowKit Go.Proofs.YtbgbomlmgkgkoaaGreat.own Go.Proofs.YtbgbomlmgkgkoaaGreat.dv Go.Proofs.YtbgbomlmgkgkoaaGreat.po Go.Proofs.YtbgbomlmgkgkoaaGreat.arcI

def WZ (x : Nat → Nat) (v0 c0 d0 : Nat) (w : World) (wb sb db eb N m st ln : Nat) (V : Int → ByteArray) (T : List UInt8) (wr : World) : Prop :=
  ∃ rv pb xb qb, WS x v0 c0 d0 w wb sb db eb N m st ln V rv pb xb qb (T.drop (T.length / (512 * m) * (512 * m))) (T.length / (512 * m)) T.length (onS 0 T) false wr

set_option maxRecDepth 100000 in
set_option maxHeartbeats 6400000 in
theorem Write_any (x : Nat → Nat) (v0 c0 d0 : Nat) (w : World) (wb sb db eb N m st ln : Nat) (V : Int → ByteArray) (T : List UInt8) (t : ByteArray) (wr : World) (h : WZ x v0 c0 d0 w wb sb db eb N m st ln V T wr) (hm : 1 ≤ m ∧ m ≤ 8) (hcd : c0 + 9 < d0 ∨ d0 + 2 < c0) (hct : CT V st (512 * m) T (T.length / (512 * m)))
    (h1 : 1 ≤ ln) (h2 : st + ln ≤ 24) (h3 : T.length + t.size ≤ ln * (512 * m) - 12) (hN : N + 300 < 1099511627776) (hsum : onS (onS 0 T) t.data.toList = onS 0 (T ++ t.data.toList)) :
    Calls Tryz.prog 33 #[.pointer (some ⟨wb, 0, none⟩), .string t] wr fun e w' => e = .returned (.int .i64 0) ∧
      ∃ V', WZ x v0 c0 d0 w wb sb db eb (N + 200) m st ln V' (T ++ t.data.toList) w' ∧ CT V' st (512 * m) (T ++ t.data.toList) ((T ++ t.data.toList).length / (512 * m)) ∧ ∀ k, (k < (st : Int) ∨ (st : Int) + (ln : Int) ≤ k) → V' k = V k := by
  obtain ⟨rv, pb, xb, qb, hw⟩ := h
  have hmp : ln * (512 * m) ≤ 98304 := by have := Nat.mul_le_mul (show ln ≤ 24 by omega) (show 512 * m ≤ 4096 by omega); omega
  have hd0 : T.length / (512 * m) * (512 * m) ≤ T.length := Nat.div_mul_le_self _ _
  obtain ⟨i0, hi, hz0, hz1, hz2⟩ := info_parts Tryz.infoByte9
  obtain ⟨a0, ha0⟩ : ∃ a0, T.length / (512 * m) = a0 := ⟨_, rfl⟩
  rw [ha0] at hw hct hd0
  have SR := Lib.hid hw
  have CT0 := Lib.hid hct
  have HSUM := Lib.hid hsum
  have HA := Lib.hid ha0
  have HM := Lib.hid hm
  obtain ⟨T', hT'⟩ : ∃ T', T ++ t.data.toList = T' := ⟨_, rfl⟩
  have hl' : T'.length = T.length + t.size := by rw [← hT', List.length_append, Array.length_toList]; rfl
  have R0 : Hid (T.drop (a0 * (512 * m)) ++ t.data.toList = T'.drop (a0 * (512 * m))) := Lib.hid (by rw [← hT', List.drop_append_of_le_length hd0])
  have HT' := Lib.hid hT'
  rw [hT'] at HSUM ⊢
  obtain ⟨L, hL⟩ : ∃ L, T.length = L := ⟨_, rfl⟩
  rw [hL] at SR h3 hd0 HA hl'
  have HL := Lib.hid hL
  clear hw hct hsum ha0 hT' hL hm
  have RM := Lib.hid (SR.out.Room h1 (by omega) (by omega))
  obtain ⟨p, hp⟩ : ∃ p, ln * (512 * m) = p := ⟨_, rfl⟩
  rw [hp] at h3 hmp RM
  have HP := Lib.hid hp
  clear hp
  have g1 : ¬ ((p - 12 - L : Nat) : Int) < (t.size : Int) := by omega
  have hts : t.size ≤ 98304 := by omega
  go_enter Tryz.func33, Tryz.ntmps33
  go_wp2_with fail
  refine SR.out.ready.mono ?_
  rintro e w1 ⟨rfl, rfl⟩
  go_wp2_with fail
  refine RM.out.mono ?_
  rintro e w1 ⟨rfl, hb1⟩
  have S1 := Lib.hid (SR.out.below hb1)
  clear hb1 SR RM
  obtain ⟨-, -, -, -, -, c5, c6, -, -, cf, -⟩ := S1.out.cells
  have f5 := cf 5
  clear cf
  have S2 := Lib.hid (S1.out.set 5 (.int .i64 ((L : Int) + (t.size : Int))) a0 (L + t.size) (onS 0 T) false rfl)
  go_wp2_with fail
  generalize w1.setCell ⟨wb, 5, none⟩ _ = w2 at S2 ⊢
  clear c5 c6 f5 S1
  refine (On_any w2 (onS 0 T) t (by omega)).mono ?_
  rintro e w3 ⟨rfl, hb3⟩
  have S3 := Lib.hid (S2.out.below hb3)
  clear hb3 S2
  obtain ⟨-, -, -, c3, -, -, c6, -, -, cf, -⟩ := S3.out.cells
  have f6 := cf 6
  rw [HSUM.out]
  have S4 := Lib.hid (S3.out.set 6 (.int .u32 (onS 0 T')) a0 (L + t.size) (onS 0 T') false rfl)
  clear cf S3
  obtain ⟨R, hR⟩ : ∃ R, T.drop (a0 * (512 * m)) = R := ⟨_, rfl⟩
  obtain ⟨rl, hrl⟩ : ∃ rl, R.length = rl := ⟨_, rfl⟩
  have hrl2 : rl = L - a0 * (512 * m) := by rw [← hrl, ← hR, List.length_drop, HL.out]
  rw [hR] at S4 R0
  have row4 := S4.out.row
  rw [hrl] at row4
  obtain ⟨ra, rc, hrv⟩ := own_shape row4
  subst hrv
  have HR := Lib.hid hR
  have HRL := Lib.hid hrl
  have HRL2 := Lib.hid hrl2
  have hrb : rl ≤ 98304 := by omega
  clear hR hrl hrl2
  have hbl : (bv t.data.toList).length = t.size := by rw [bv_len, Array.length_toList]; rfl
  go_wp2_with (at_builtin; refine wpList_append_k _ rfl _ _ 55 9 rfl 0 5 i0 _ hz1 hz0 rfl (by omega) _ _ _ rfl row4 _ t.size (bv t.data.toList) rfl (Go.Proofs.YtbgbomlmgkgkoaaGreat.ev.SrcK.ofSrc Tryz.underlying55 hi (by rw [hz1]; exact Src.ofString _ Tryz.underlying9 t)) (bv_one _) (by omega) (Nat.zero_le _) ?_)
  intro v5 w5 own5 hg5 hw5
  rw [bv_append, R0.out] at own5
  obtain ⟨a5, p5, hv5⟩ := own_shape own5
  subst hv5
  have hl5 : (T'.drop (a0 * (512 * m))).length = rl + t.size := by rw [List.length_drop, hl']; have := HRL2.out; omega
  have S5 := Lib.hid (S4.out.rest (R1 := T'.drop (a0 * (512 * m))) (.inl rfl) hg5 (by rw [hl5]; exact own5) (by have z : (w3.setCell ⟨wb, 6, none⟩ (.int .u32 (onS 0 T'))).heap.size = w3.heap.size := (by simp); rw [z]; exact hw5))
  have c35 : (w5.cell? ⟨wb, 3, none⟩).isSome = true := by
    obtain ⟨hv, x', f, i, s⟩ := S4.out
    have hne : (Value.slice ra rl rc).ownBlock ≠ some wb := fun e => by have a := i.xr wb e; rw [i.x0] at a; omega
    have g := (hg5.block wb (lt_of_block i.h0) (fun e => hne e.symm)).trans i.h0
    rw [cell_of_row _ _ _ _ _ _ g]; rfl
  obtain ⟨u35, c35⟩ := Option.isSome_iff_exists.1 c35
  have f35 : w5.frozen? ⟨wb, 3, none⟩ = false := by
    obtain ⟨hv, x', f, i, s⟩ := S4.out
    have hne : (Value.slice ra rl rc).ownBlock ≠ some wb := fun e => by have a := i.xr wb e; rw [i.x0] at a; omega
    exact frozen_of_row _ _ _ _ _ ((hg5.block wb (lt_of_block i.h0) (fun e => hne e.symm)).trans i.h0)
  have c05 : w5.cell? ⟨wb, 0, none⟩ = some (.pointer (some ⟨sb, 0, none⟩)) := by
    obtain ⟨hv, x', f, i, s⟩ := S4.out
    have hne : (Value.slice ra rl rc).ownBlock ≠ some wb := fun e => by have a := i.xr wb e; rw [i.x0] at a; omega
    rw [cell_of_row _ _ _ _ _ _ ((hg5.block wb (lt_of_block i.h0) (fun e => hne e.symm)).trans i.h0)]; rfl
  clear c3 c6 f6 S4 row4 own5 hg5 hw5 R0
  go_wp2_with fail
  generalize hrv6 : Value.slice a5 (rl + t.size) p5 = rv6 at S5 ⊢
  have HV6 := Lib.hid hrv6
  clear hrv6
  generalize w5.setCell ⟨wb, 3, none⟩ _ = w6 at S5 ⊢
  clear c35 f35 c05 HV6
  refine S5.out.Size.mono ?_
  rintro e w7 ⟨rfl, rfl⟩
  have CV0 : Hid (CT V st (512 * m) T' a0) := Lib.hid (fun j hj => by
    rw [CT0.out j hj, ← HT'.out]
    have hjm : (j + 1) * (512 * m) ≤ a0 * (512 * m) := Nat.mul_le_mul_right _ hj
    rw [Nat.add_mul] at hjm
    rw [List.drop_append_of_le_length (by rw [HL.out]; omega), List.take_append_of_le_length (by rw [List.length_drop, HL.out]; omega)])
  have HA0 : Hid (a0 * (512 * m) ≤ T'.length) := Lib.hid (by rw [hl']; omega)
  obtain ⟨M, hM⟩ : ∃ M, T'.length = M := ⟨_, rfl⟩
  have HMM := Lib.hid hM
  have hMp : M ≤ p - 12 := by omega
  rw [← hl', hM] at S5
  rw [hM] at HA0
  have HLP := Lib.hid hl'
  clear hl5 hl' hM
  obtain ⟨sz, hsz⟩ : ∃ sz, 512 * m = sz := ⟨_, rfl⟩
  have hsz1 : 512 ≤ sz ∧ sz ≤ 4096 := by have := HM.out; omega
  rw [hsz] at S5 CV0 HA0 HP hd0
  have HSZ := Lib.hid hsz
  have hszi : ((512 * m : Nat) : Int) = (sz : Int) := by rw [hsz]
  rw [hszi]
  clear hsz hszi
  have W0 : Hid (∃ rv V', WS x v0 c0 d0 w wb sb db eb (N + 8 * (a0 - a0)) m st ln V' rv pb xb qb (T'.drop (a0 * sz)) a0 M (onS 0 T') false w6 ∧ CT V' st sz T' a0 ∧ ∀ k, (k < (st : Int) ∨ (st : Int) + (ln : Int) ≤ k) → V' k = V k) := Lib.hid ⟨_, V, by rw [Nat.sub_self]; exact S5.out, CV0.out, fun _ _ => rfl⟩
  go_wp2_with fail
  clear S5 CV0
  have hm512 : 512 * m = sz := HSZ.out
  go_loopw [] (fun wq => ∃ (a : Nat) (rv : Value) (V' : Int → ByteArray), a0 ≤ a ∧ a * sz ≤ M ∧ WS x v0 c0 d0 w wb sb db eb (N + 8 * (a - a0)) m st ln V' rv pb xb qb (T'.drop (a * sz)) a M (onS 0 T') false wq ∧ CT V' st sz T' a ∧ ∀ k, (k < (st : Int) ∨ (st : Int) + (ln : Int) ≤ k) → V' k = V k) (fun wq => 200 - (intOf ((wq.cell? ⟨wb, 4, none⟩).getD undef)).toNat)
  case atStart => obtain ⟨rv, V', h1, h2, h3⟩ := W0.out; exact ⟨a0, rv, V', Nat.le_refl _, HA0.out, h1, h2, h3⟩
  case round => as_aux_lemma =>
    obtain ⟨a, rv, V', haa, haM, hS, hC, hO⟩ := hrel
    have SA := Lib.hid hS
    have CA := Lib.hid hC
    have OA := Lib.hid hO
    have a200 : a * 512 ≤ a * sz := Nat.mul_le_mul_left _ hsz1.1
    have ha191 : a ≤ 191 := by omega
    obtain ⟨R, hR⟩ : ∃ R, T'.drop (a * sz) = R := ⟨_, rfl⟩
    obtain ⟨rl, hrl⟩ : ∃ rl, R.length = rl := ⟨_, rfl⟩
    have hrl2 : rl = M - a * sz := by rw [← hrl, ← hR, List.length_drop, HMM.out]
    rw [hR] at SA
    have row := SA.out.row
    rw [hrl] at row
    obtain ⟨ra, rc, hrv⟩ := own_shape row
    subst hrv
    obtain ⟨-, -, -, c3, c4, -, -, c7, -⟩ := SA.out.cells
    have M4 := Lib.hid c4
    clear c4
    have ROW := Lib.hid row
    have HR := Lib.hid hR
    have HRL := Lib.hid hrl
    clear hS hC hO hR hrl row
    by_cases hge : sz ≤ rl
    · have han : st + a < 24 := by
        have h5 : (a + 1) * sz ≤ M := by rw [Nat.add_mul]; omega
        have h6 : (a + 1) * sz < ln * sz := by rw [HP.out]; omega
        have := Nat.lt_of_mul_lt_mul_right h6
        omega
      rcases ROW.out.2 with ⟨-, h0⟩ | ⟨g, cap, cur, hv, -, hgc, hnc, -, -, -⟩
      · omega
      · obtain ⟨rfl, -, rfl⟩ := Value.slice.inj hv
        clear hv hgc cur
        have hgei : (sz : Int) ≤ (rl : Int) := by omega
        have hM1 : (a + 1) * sz ≤ M := by rw [Nat.add_mul]; omega
        have hM2 : sz ≤ (a + 1) * sz := Nat.le_mul_of_pos_left _ (by omega)
        have hrb2 : rl ≤ 98304 := by omega
        have HRL2 := Lib.hid hrl2
        clear hrl2
        go_upto_region 11 with fail
        refine wp_region_still_tail 11 (by kernel_rfl) (by kernel_rfl) ?_
        simp only [List.take_succ_cons, List.take_zero, List.drop_succ_cons, List.drop_zero]
        have S4 : Hid (WS x v0 c0 d0 w wb sb db eb (N + 8 * (a - a0)) m st ln V' (.slice (some ⟨g, 0, none⟩) rl rc) pb xb qb R a M (onS 0 T') false ({ wr with drawn := wr.drawn + 1 } : World)) := Lib.hid (SA.out.below ⟨rfl, rfl, rfl, Nat.le_refl _, fun _ _ => rfl⟩)
        have C4 := Lib.hid (show Hid (∀ j (hj : j < (R.take sz).length), ({ wr with drawn := wr.drawn + 1 } : World).cell? ((⟨g, 0, none⟩ : Addr).add j) = some (.int .u8 ((R.take sz)[j].toNat : Int))) from Lib.hid (fun j hj => by
          have hj2 : j < R.length := by rw [List.length_take] at hj; omega
          rw [Addr.add_lit, Nat.zero_add]
          show wr.cell? ⟨g, j, none⟩ = _
          rw [ROW.out.cellAt j (by rw [← HRL.out]; omega)]
          simp [bv, hj2]))
        clear c3 c7 SA ROW
        generalize ({ wr with drawn := wr.drawn + 1 } : World) = W4 at S4 C4 ⊢
        obtain ⟨-, -, -, c3, -, -, -, c7, -⟩ := S4.out.cells
        have htl : (R.take sz).length = sz := by rw [List.length_take, HRL.out]; omega
        have hcv := run_convert_bytes_back (P := Tryz.prog) W4 55 9 5 ⟨g, 0, none⟩ rc (R.take sz) (by kernel_rfl) (by kernel_rfl) (by kernel_rfl) C4.out.out
        rw [htl] at hcv
        have q1 : ¬ rc = 0 := by omega
        have q2 : (sz : Int) ≤ rc := by omega
        have q3 : sz ≤ rc := by omega
        obtain ⟨ck, hck⟩ : ∃ ck : ByteArray, ck = ⟨(R.take sz).toArray⟩ := ⟨_, rfl⟩
        rw [← hck] at hcv
        have CKS : Hid (ck.size = 512 * m) := Lib.hid (by rw [hck, hm512]; show (R.take sz).toArray.size = sz; rw [List.size_toArray, htl])
        have CKL : Hid (ck.data.toList = (T'.drop (a * sz)).take sz) := Lib.hid (by rw [hck, HR.out])
        clear hck
        repeat still_step
        refine wpStill_nil ?_
        clear hcv C4
        go_wp2_with fail
        refine (S4.out.put hcd han CKS.out (by omega)).mono ?_
        rintro e w8 ⟨rfl, s8⟩
        have S8 := Lib.hid s8
        have CA8 : Hid (CT (fun k => if k = (st : Int) + (a : Int) then ck else V' k) st sz T' (a + 1)) := Lib.hid (fun j hj => by
          show (if (st : Int) + (j : Int) = (st : Int) + (a : Int) then ck else V' ((st : Int) + (j : Int))).data.toList = _
          by_cases hja : j = a
          · subst hja; rw [if_pos rfl]; exact CKL.out
          · rw [if_neg (by omega)]; exact CA.out j (by omega))
        have OA8 : Hid (∀ k, (k < (st : Int) ∨ (st : Int) + (ln : Int) ≤ k) → (if k = (st : Int) + (a : Int) then ck else V' k) = V k) := Lib.hid (fun k hk => by
          have haln : (a : Int) < (ln : Int) := by
            have h6 : (a + 1) * sz < ln * sz := by rw [HP.out]; omega
            have := Nat.lt_of_mul_lt_mul_right h6
            omega
          rw [if_neg (by omega)]; exact OA.out k hk)
        clear s8 S4 c3 c7 CKL CKS CA OA
        obtain ⟨-, -, -, c3, -, -, -, -, -, cf, -⟩ := S8.out.cells
        have f3 := cf 3
        clear cf
        obtain ⟨i0, hi, hz0, hz1, hz2⟩ := info_parts Tryz.infoByte9
        have hdl : (R.drop sz).length = rl - sz := by rw [List.length_drop, HRL.out]
        have ROW8 := S8.out.row
        rw [HRL.out] at ROW8
        have HC : ∀ j u, (bv (R.drop sz))[j]? = some u → w8.cell? ((⟨g, sz, none⟩ : Addr).add j) = some u := fun j u hj => by
          have hjl : j < rl - sz := by
            have := (List.getElem?_eq_some_iff.1 hj).1
            rw [bv_len, hdl] at this; exact this
          rw [Addr.add_lit, ROW8.cellAt (sz + j) (by omega), ← hj]
          unfold bv
          rw [List.map_drop, List.getElem?_drop]
        have HLN : (bv (R.drop sz)).length = (rl - sz) * 1 := by rw [bv_len, hdl, Nat.mul_one]
        have d9 : T'.drop ((a + 1) * sz) = R.drop sz := by rw [← HR.out, List.drop_drop, Nat.add_mul, Nat.one_mul]
        have D9 := Lib.hid d9
        clear ROW8 d9
        by_cases hrc : rc = sz
        · have HC0 : ∀ j u, (bv (R.drop sz))[j]? = some u → w8.cell? ((⟨g, 0, none⟩ : Addr).add j) = some u := fun j u hj => by
            have := (List.getElem?_eq_some_iff.1 hj).1
            rw [bv_len, hdl] at this; omega
          clear HC
          go_wp2_with (at_builtin; refine wpList_append_k _ rfl _ _ 55 55 rfl 0 5 i0 _ hz1 hz0 rfl (by omega) _ 0 [] rfl (World.ownsRow_nil _ _ _ _) _ (rl - sz) (bv (R.drop sz)) rfl (Go.Proofs.YtbgbomlmgkgkoaaGreat.ev.SrcK.ofSrc Tryz.underlying55 hi (by rw [hz1]; exact Src.ofSlice _ Tryz.underlying55 _ _ _ _ HLN HC0 (bv_one _))) (bv_one _) (by omega) (Nat.zero_le _) ?_)
          intro v9 w9 own9 hg9 hw9
          try rw [List.nil_append] at own9
          try rw [Nat.zero_add] at own9
          obtain ⟨a9, p9, hv9⟩ := own_shape own9
          subst hv9
          have S9 := Lib.hid (S8.out.rest (R1 := T'.drop ((a + 1) * sz)) (row := none) (.inr rfl) hg9 (by rw [D9.out, hdl]; exact own9) hw9)
          have c39 : ∃ u, w9.cell? ⟨wb, 3, none⟩ = some u := by
            obtain ⟨hv, x', f, i, s⟩ := S8.out
            exact ⟨_, by rw [cell_of_row _ _ _ _ _ _ ((hg9.block wb (lt_of_block i.h0) (fun e => by cases e)).trans i.h0)]; rfl⟩
          obtain ⟨u39, c39⟩ := c39
          have f39 : w9.frozen? ⟨wb, 3, none⟩ = false := by
            obtain ⟨hv, x', f, i, s⟩ := S8.out
            exact frozen_of_row _ _ _ _ _ ((hg9.block wb (lt_of_block i.h0) (fun e => by cases e)).trans i.h0)
          clear own9 hg9 hw9 c3 f3 S8
          go_wp2_with fail
          obtain ⟨-, -, -, -, m4, -⟩ := S9.out.cells
          have MM := Lib.hid m4
          clear m4
          go_roundw
          case rel => exact ⟨a + 1, _, _, by omega, hM1, S9.out.mono (by omega), CA8.out, OA8.out⟩
          case measure => rw [MM.out, M4.out]; simp [intOf]; omega
        · go_wp2_with (at_builtin; refine wpList_append_k _ rfl _ _ 55 55 rfl 0 5 i0 _ hz1 hz0 rfl (by omega) _ 0 [] rfl (World.ownsRow_nil _ _ _ _) _ (rl - sz) (bv (R.drop sz)) rfl (Go.Proofs.YtbgbomlmgkgkoaaGreat.ev.SrcK.ofSrc Tryz.underlying55 hi (by rw [hz1]; exact Src.ofSlice _ Tryz.underlying55 _ _ _ _ HLN HC (bv_one _))) (bv_one _) (by omega) (Nat.zero_le _) ?_)
          intro v9 w9 own9 hg9 hw9
          try rw [List.nil_append] at own9
          try rw [Nat.zero_add] at own9
          obtain ⟨a9, p9, hv9⟩ := own_shape own9
          subst hv9
          have S9 := Lib.hid (S8.out.rest (R1 := T'.drop ((a + 1) * sz)) (row := none) (.inr rfl) hg9 (by rw [D9.out, hdl]; exact own9) hw9)
          have c39 : ∃ u, w9.cell? ⟨wb, 3, none⟩ = some u := by
            obtain ⟨hv, x', f, i, s⟩ := S8.out
            exact ⟨_, by rw [cell_of_row _ _ _ _ _ _ ((hg9.block wb (lt_of_block i.h0) (fun e => by cases e)).trans i.h0)]; rfl⟩
          obtain ⟨u39, c39⟩ := c39
          have f39 : w9.frozen? ⟨wb, 3, none⟩ = false := by
            obtain ⟨hv, x', f, i, s⟩ := S8.out
            exact frozen_of_row _ _ _ _ _ ((hg9.block wb (lt_of_block i.h0) (fun e => by cases e)).trans i.h0)
          clear own9 hg9 hw9 c3 f3 S8
          go_wp2_with fail
          obtain ⟨-, -, -, -, m4, -⟩ := S9.out.cells
          have MM := Lib.hid m4
          clear m4
          go_roundw
          case rel => exact ⟨a + 1, _, _, by omega, hM1, S9.out.mono (by omega), CA8.out, OA8.out⟩
          case measure => rw [MM.out, M4.out]; simp [intOf]; omega
    · have hgei : ¬ (sz : Int) ≤ (rl : Int) := by omega
      have hgen : ¬ sz ≤ M - a * sz := by omega
      have haln : a < ln ∨ M = 0 := by
        rcases Nat.eq_zero_or_pos M with h0 | h0
        · exact .inr h0
        · have h6 : a * sz < ln * sz := by rw [HP.out]; omega
          exact .inl (Nat.lt_of_mul_lt_mul_right h6)
      have ha24 : a ≤ 24 := by
        rcases haln with h | h
        · omega
        · omega
      have ED : Hid (T'.length / (512 * m) = a) := Lib.hid (by
        rw [HMM.out, HSZ.out]
        exact Nat.div_eq_of_lt_le haM (by rw [Nat.succ_mul]; omega))
      have FIN : Hid (∃ V', WZ x v0 c0 d0 w wb sb db eb (N + 200) m st ln V' T' wr ∧ CT V' st (512 * m) T' (T'.length / (512 * m)) ∧ ∀ k, (k < (st : Int) ∨ (st : Int) + (ln : Int) ≤ k) → V' k = V k) := Lib.hid (by
        have q1 : WS x v0 c0 d0 w wb sb db eb (N + 200) m st ln V' (.slice ra rl rc) pb xb qb (T'.drop (T'.length / (512 * m) * (512 * m))) (T'.length / (512 * m)) T'.length (onS 0 T') false wr := by
          rw [ED.out, HSZ.out, HMM.out, HR.out]
          exact SA.out.mono (by omega)
        have q2 : CT V' st (512 * m) T' (T'.length / (512 * m)) := by rw [ED.out, HSZ.out]; exact CA.out
        exact ⟨V', ⟨_, pb, xb, qb, q1⟩, q2, OA.out⟩)
      clear SA CA OA HR HRL ROW hrl2 haln
      go_wp2_with fail
      go_ret
      exact ⟨rfl, by have q := FIN.out; rw [HSZ.out] at q; exact q⟩

end Go.Proofs.YtbgbomlmgkgkoaaGreat.st

namespace Go.Proofs.YtbgbomlmgkgkoaaGreat.st
open Go.RowKit Go.Proofs.YtbgbomlmgkgkoaaGreat.own Go.Proofs.YtbgbomlmgkgkoaaGreat.dv Go.Proofs.YtbgbomlmgkgkoaaGreat.po Go.Proofs.YtbgbomlmgkgkoaaGreat.arcI

theorem wp_append_k {P : Program} (w : World) {o : Oper} {a : Act} {K : Act → World → Prop} {Q : Exit → Act → World → Prop} {c : Bool} {E : Prop} (hc : c = true) (s x : Operand) (t tx : TypeId)
    (ho : o.op = .call { callee := .builtin .append, args := #[s, x], argTypes := #[t, tx] })
    (base : Nat) (e : TypeId) (i : TypeInfo) (z : Value) (hi : i.size = 1) (hz : i.zero = some z) (hzs : z.cells.size = 1) (hby : i.bytes ≤ 16)
    (v : Value) (n : Nat) (xs : List Value) (hv : a.eval s = v) (hown : w.ownsRow base e 1 v n xs) (u : Value) (m : Nat) (news : List Value) (hx : a.eval x = u) (hs : Go.Proofs.YtbgbomlmgkgkoaaGreat.ev.SrcK P t tx e i u m news w) (h1 : ∀ y ∈ news, y.oneCell' = true) (hsm : n + m ≤ 1099511627776) (hbase : base ≤ w.heap.size)
    (h : ∀ v' w', w'.ownsRow base e 1 v' (n + m) (xs ++ news) → w.grownBy w' v.ownBlock → (v'.ownBlock = v.ownBlock ∨ v'.ownBlock = some w.heap.size) → w'.ownsRow base e 1 v n xs → K (a.put o.dst v') w') :
    if c = true then Oper.wp P o a w K Q else E := by
  rw [if_pos hc]
  obtain ⟨v', w', hr, h2, h3, h4, h5⟩ := run_append_k (P := P) w base t tx o.type e i z hi hz hzs hby v n xs hown u m news hs h1 hsm hbase
  unfold Oper.wp execOp
  simp only [ho, resolve, invoke, builtin, Sem.run_bind, Sem.run_pure, Result.andThen_ok, List.map_toArray, List.map_cons, List.map_nil, hv, hx, hr]
  exact h v' w' h2 h3 h4 h5

theorem wpList_append_o {P : Program} (w : World) {ops : Array Oper} {rest : List Oper} {o : Oper} {a : Act} {Q : Exit → Act → World → Prop} (hgd : o.guard = none) (s x : Operand) (t tx : TypeId)
    (ho : o.op = .call { callee := .builtin .append, args := #[s, x], argTypes := #[t, tx] })
    (base : Nat) (e : TypeId) (i : TypeInfo) (z : Value) (hi : i.size = 1) (hz : i.zero = some z) (hzs : z.cells.size = 1) (hby : i.bytes ≤ 16)
    (v : Value) (n : Nat) (xs : List Value) (hv : a.eval s = v) (hown : w.ownsRow base e 1 v n xs) (u : Value) (m : Nat) (news : List Value) (hx : a.eval x = u) (hs : Go.Proofs.YtbgbomlmgkgkoaaGreat.ev.SrcK P t tx e i u m news w) (h1 : ∀ y ∈ news, y.oneCell' = true) (hsm : n + m ≤ 1099511627776) (hbase : base ≤ w.heap.size)
    (h : ∀ v' w', w'.ownsRow base e 1 v' (n + m) (xs ++ news) → w.grownBy w' v.ownBlock → (v'.ownBlock = v.ownBlock ∨ v'.ownBlock = some w.heap.size) → w'.ownsRow base e 1 v n xs → wpList P ops Q rest (a.put o.dst v') w') :
    wpList P ops Q (o :: rest) a w := by
  refine wpList_plain hgd fun K hK => ?_
  obtain ⟨v', w', hr, h2, h3, h4, h5⟩ := run_append_k (P := P) w base t tx o.type e i z hi hz hzs hby v n xs hown u m news hs h1 hsm hbase
  unfold Oper.wp execOp
  simp only [ho, resolve, invoke, builtin, Sem.run_bind, Sem.run_pure, Result.andThen_ok, List.map_toArray, List.map_cons, List.map_nil, hv, hx, hr]
  exact hK _ _ (h v' w' h2 h3 h4 h5)

/-- the row was appended to, and what was there before is in use still -/
theorem WS.grown {x : Nat → Nat} {v0 c0 d0 : Nat} {w : World} {wb sb db eb N m st ln : Nat} {V : Int → ByteArray} {rv : Value} {pb xb qb : Nat} {R : List UInt8} {at_ len : Nat} {sum : Int} {dn : Bool} {wr : World} (h : WS x v0 c0 d0 w wb sb db eb N m st ln V rv pb xb qb R at_ len sum dn wr) {w1 : World} (hg : wr.grownBy w1 rv.ownBlock) (old : w1.ownsRow 0 5 1 rv R.length (bv R)) :
    WS x v0 c0 d0 w wb sb db eb N m st ln V rv pb xb qb R at_ len sum dn w1 := by
  obtain ⟨hv, x', f, i, s⟩ := h
  have hK : Keeps wr w1 (fun b => rv.ownBlock = some b) := (Keeps.refl wr _).grown hg (fun k hk => .inl hk)
  have f1 : Fr x' (paint x' wr.heap.size (v0 + 1)) (fun e => e = v0 + 1) wr w1 := hK.fr rfl (fun b _ e => i.xr b e)
  have l0 := lt_of_block i.h0
  have lp := lt_of_block i.hp
  have lx := lt_of_block i.hx
  have lq := lt_of_block i.hq
  have s1 := s.frame f1 (fun e he hc => hv (v0 + 1) ⟨by omega, by omega⟩ (by rw [← hc]; exact PD_PC c0 d0 _ he))
  exact ⟨hv, _, f.trans (f1.mono (fun e he => .inr ⟨by omega, by omega⟩)), ⟨(f1.old wb l0 (by rw [i.x0]; omega)).trans i.h0, by rw [paint_old l0]; exact i.x0, old, fun b hb => by rw [paint_old (i.row.lt b hb).2]; exact i.xr b hb, (f1.old pb lp (by rw [i.xp]; omega)).trans i.hp, by rw [paint_old lp]; exact i.xp, (f1.old xb lx (by rw [i.xx]; omega)).trans i.hx, by rw [paint_old lx]; exact i.xx, (f1.old qb lq (by rw [i.xq]; omega)).trans i.hq, by rw [paint_old lq]; exact i.xq⟩, s1⟩

/-- what was appended is not the writer's own block -/
theorem WS.apart {x : Nat → Nat} {v0 c0 d0 : Nat} {w : World} {wb sb db eb N m st ln : Nat} {V : Int → ByteArray} {rv : Value} {pb xb qb : Nat} {R : List UInt8} {at_ len : Nat} {sum : Int} {dn : Bool} {wr : World} (h : WS x v0 c0 d0 w wb sb db eb N m st ln V rv pb xb qb R at_ len sum dn wr) {w1 : World} {v1 : Value} {n1 : Nat} {xs : List Value} (own1 : w1.ownsRow 0 5 1 v1 n1 xs) (hw : v1.ownBlock = rv.ownBlock ∨ v1.ownBlock = some wr.heap.size) (o : Nat) (u : Value) : (w1.setCell ⟨wb, o, none⟩ u).ownsRow 0 5 1 v1 n1 xs := by
  obtain ⟨hv, x', f, i, s⟩ := h
  refine own1.kept (grownBy_setCell_at w1 wb o u) (.inr fun e => ?_)
  rcases hw with q | q
  · have a := i.xr wb (by rw [← q]; exact e); rw [i.x0] at a; omega
  · rw [e] at q
    have := Option.some.inj q
    have := lt_of_block i.h0
    omega

set_option maxRecDepth 100000 in
theorem Write_full (x : Nat → Nat) (v0 c0 d0 : Nat) (w : World) (wb sb db eb N m st ln : Nat) (V : Int → ByteArray) (T : List UInt8) (t : ByteArray) (wr : World) (h : WZ x v0 c0 d0 w wb sb db eb N m st ln V T wr) (hm : 1 ≤ m ∧ m ≤ 8)
    (h1 : 1 ≤ ln) (h2 : st + ln ≤ 24) (h3 : T.length ≤ ln * (512 * m) - 12) (h4 : ln * (512 * m) - 12 < T.length + t.size) :
    Calls Tryz.prog 33 #[.pointer (some ⟨wb, 0, none⟩), .string t] wr fun e w' => e = .returned (.int .i64 3) ∧ WZ x v0 c0 d0 w wb sb db eb N m st ln V T w' := by
  obtain ⟨rv, pb, xb, qb, hw⟩ := h
  have hmp : ln * (512 * m) ≤ 98304 := by have := Nat.mul_le_mul (show ln ≤ 24 by omega) (show 512 * m ≤ 4096 by omega); omega
  have SR := Lib.hid hw
  have RM := Lib.hid (hw.Room h1 (by omega) h3)
  clear hw
  obtain ⟨L, hL⟩ : ∃ L, T.length = L := ⟨_, rfl⟩
  obtain ⟨p, hp⟩ : ∃ p, ln * (512 * m) = p := ⟨_, rfl⟩
  rw [hL, hp] at RM h3 h4
  rw [hp] at hmp
  have g1 : ((p - 12 - L : Nat) : Int) < (t.size : Int) := by omega
  have g2 : p - 12 - L < t.size := by omega
  clear hL hp
  go_enter Tryz.func33, Tryz.ntmps33
  go_wp2_with fail
  refine SR.out.ready.mono ?_
  rintro e w1 ⟨rfl, rfl⟩
  go_wp2_with fail
  refine RM.out.mono ?_
  rintro e w1 ⟨rfl, hb1⟩
  have S1 := Lib.hid (SR.out.below hb1)
  clear hb1 SR RM
  go_wp2_with fail
  go_ret
  exact ⟨rfl, _, _, _, _, S1.out⟩

/-- what a stream that was closed has left -/
structure Closed (V : Int → ByteArray) (st ln sz : Nat) (T : List UInt8) : Prop where
  bytes : ∀ i, i < T.length → (V ((st : Int) + ((i / sz : Nat) : Int))).data.toList[i % sz]? = T[i]?
  foot : (V ((st : Int) + (ln : Int) - 1)).data.toList.drop (sz - 12) = bytesN T.length 8 ++ bytesN (onS 0 T).toNat 4

def padN (l : List UInt8) (n : Nat) : List UInt8 := l ++ List.replicate (n - l.length) 0
theorem zeros_cells (n : Nat) : Go.Proofs.YtbgbomlmgkgkoaaGreat.ev.repeatCells (Go.Proofs.YtbgbomlmgkgkoaaGreat.ev.vcells (.int .u8 0)) n = bv (List.replicate n 0) := by
  induction n with
  | zero => rfl
  | succ n ih => show Go.Proofs.YtbgbomlmgkgkoaaGreat.ev.vcells (.int .u8 0) ++ _ = _; rw [ih]; rfl
theorem row_text {W : World} {v : Value} {l : List UInt8} (h : W.ownsRow 0 5 1 v l.length (bv l)) : (convert 55 9 v).run Tryz.prog W = .ok (.string ⟨l.toArray⟩) W := by
  rcases h.2 with ⟨hv, hz⟩ | ⟨g, cap, cur, hv, _⟩
  · have hp : l = [] := List.eq_nil_of_length_eq_zero hz
    rw [hv, hp]
    exact run_convert_bytes_nil (P := Tryz.prog) W 55 5 (by kernel_rfl) (by kernel_rfl) 0 0 9 (by kernel_rfl)
  · subst hv
    exact run_convert_bytes_back (P := Tryz.prog) W 55 9 5 ⟨g, 0, none⟩ cap l (by kernel_rfl) (by kernel_rfl) (by kernel_rfl) (fun j hj => by
      rw [Addr.add_lit, Nat.zero_add, h.cellAt j (by omega)]
      simp [bv, hj])

/-- a stream to which the last block alone is wanting -/
structure Near (V : Int → ByteArray) (st ln sz : Nat) (T R : List UInt8) : Prop where
  le : R.length ≤ sz - 12
  got : ∀ (t : ByteArray) (z : List UInt8), t.data.toList = R ++ z → ∀ i, i < T.length → (if (st : Int) + ((i / sz : Nat) : Int) = (st : Int) + (ln : Int) - 1 then t else V ((st : Int) + ((i / sz : Nat) : Int))).data.toList[i % sz]? = T[i]?

theorem drop_at (T : List UInt8) (sz i : Nat) : (T.drop (i / sz * sz))[i % sz]? = T[i]? := by
  rw [List.getElem?_drop, Nat.mul_comm, Nat.div_add_mod]
theorem ct_at {V : Int → ByteArray} {st sz a : Nat} {T : List UInt8} (h : CT V st sz T a) (hz : 0 < sz) (i : Nat) (hi : i / sz < a) : (V ((st : Int) + ((i / sz : Nat) : Int))).data.toList[i % sz]? = T[i]? := by
  rw [h _ hi, List.getElem?_take, if_pos (Nat.mod_lt _ hz), drop_at]
theorem near_b {V : Int → ByteArray} {st ln sz a : Nat} {T : List UInt8} (h : CT V st sz T a) (ha : T.length / sz = a) (hz : 512 ≤ sz) (h1 : 1 ≤ ln) (h3 : T.length ≤ ln * sz - 12) (hc : a < ln - 1 → T.length - a * sz = 0) : Near V st ln sz T (T.drop (a * sz)) := by
  have hal : a < ln := by rw [← ha]; exact Nat.div_lt_of_lt_mul (by rw [Nat.mul_comm]; have := Nat.mul_le_mul h1 hz; omega)
  have hd : a * sz ≤ T.length := by rw [← ha]; exact Nat.div_mul_le_self _ _
  refine ⟨?_, fun t z ht i hi => ?_⟩
  · rw [List.length_drop]
    by_cases q : a < ln - 1
    · rw [hc q]; exact Nat.zero_le _
    · obtain rfl : ln = a + 1 := by omega
      rw [Nat.add_mul] at h3; omega
  · have hia : i / sz ≤ a := by rw [← ha]; exact Nat.div_le_div_right (Nat.le_of_lt hi)
    by_cases q : i / sz < a
    · rw [if_neg (by omega)]; exact ct_at h (by omega) i q
    · have e : i / sz = a := by omega
      have q2 : ¬ a < ln - 1 := fun q2 => by
        have := hc q2
        have := Nat.div_mul_le_self i sz
        rw [e] at this; omega
      rw [if_pos (by omega), ht, ← e, List.getElem?_append_left, drop_at]
      rw [List.length_drop]
      have := Nat.div_add_mod i sz
      rw [Nat.mul_comm] at this; omega
theorem near_a {V : Int → ByteArray} {st ln sz a : Nat} {T : List UInt8} (h : CT V st sz T a) (ha : T.length / sz = a) (hz : 512 ≤ sz) (hc : a < ln - 1) (t0 : ByteArray) (z : List UInt8) (ht : t0.data.toList = T.drop (a * sz) ++ z) : Near (fun k => if k = (st : Int) + (a : Int) then t0 else V k) st ln sz T [] := by
  refine ⟨Nat.zero_le _, fun t z _ i hi => ?_⟩
  have hia : i / sz ≤ a := by rw [← ha]; exact Nat.div_le_div_right (Nat.le_of_lt hi)
  rw [if_neg (by omega)]
  by_cases q : i / sz < a
  · show (if (st : Int) + ((i / sz : Nat) : Int) = (st : Int) + (a : Int) then t0 else V ((st : Int) + ((i / sz : Nat) : Int))).data.toList[i % sz]? = _
    rw [if_neg (by omega)]; exact ct_at h (by omega) i q
  · have e : i / sz = a := by omega
    show (if (st : Int) + ((i / sz : Nat) : Int) = (st : Int) + (a : Int) then t0 else V ((st : Int) + ((i / sz : Nat) : Int))).data.toList[i % sz]? = _
    rw [if_pos (by omega), ht, ← e, List.getElem?_append_left, drop_at]
    rw [List.length_drop]
    have := Nat.div_add_mod i sz
    rw [Nat.mul_comm] at this; omega

end Go.Proofs.YtbgbomlmgkgkoaaGreat.st

namespace Go.Proofs.YtbgbomlmgkgkoaaGreat.st
open Go.RowKit Go.Proofs.YtbgbomlmgkgkoaaGreat.own Go.Proofs.YtbgbomlmgkgkoaaGreat.dv Go.Proofs.YtbgbomlmgkgkoaaGreat.po Go.Proofs.YtbgbomlmgkgkoaaGreat.arcI

/-- the bytes of a stream from off on, by what the blocks have -/
def readL (V : Int → ByteArray) (st sz off n : Nat) : List UInt8 := (List.range n).map fun j => ((V ((st : Int) + (((off + j) / sz : Nat) : Int))).data.toList[(off + j) % sz]?).getD 0
theorem readL_len (V : Int → ByteArray) (st sz off n : Nat) : (readL V st sz off n).length = n := by simp [readL]
theorem readL_add (V : Int → ByteArray) (st sz off a b : Nat) : readL V st sz off (a + b) = readL V st sz off a ++ readL V st sz (off + a) b := by
  unfold readL
  rw [List.range_add, List.map_append, List.map_map]
  congr 1
  refine List.map_congr_left fun j _ => ?_
  show ((V ((st : Int) + (((off + (a + j)) / sz : Nat) : Int))).data.toList[(off + (a + j)) % sz]?).getD 0 = _
  rw [← Nat.add_assoc]
theorem readL_chunk {V : Int → ByteArray} {st sz off k : Nat} (hz : 0 < sz) (hV : (V ((st : Int) + ((off / sz : Nat) : Int))).size = sz) (hk : off % sz + k ≤ sz) :
    readL V st sz off k = ((V ((st : Int) + ((off / sz : Nat) : Int))).data.toList.drop (off % sz)).take k := by
  have hl : (V ((st : Int) + ((off / sz : Nat) : Int))).data.toList.length = sz := by rw [Array.length_toList]; exact hV
  refine List.ext_getElem (by rw [readL_len, List.length_take, List.length_drop, hl]; omega) fun j h1 h2 => ?_
  rw [readL_len] at h1
  have hm := Nat.div_add_mod off sz
  have e1 : (off + j) / sz = off / sz := by
    rw [show off + j = sz * (off / sz) + (off % sz + j) by omega, Nat.mul_add_div hz, Nat.div_eq_of_lt (show off % sz + j < sz by omega), Nat.add_zero]
  have e2 : (off + j) % sz = off % sz + j := by
    rw [show off + j = sz * (off / sz) + (off % sz + j) by omega, Nat.mul_add_mod, Nat.mod_eq_of_lt (show off % sz + j < sz by omega)]
  simp only [readL, List.getElem_map, List.getElem_range, List.getElem_take, List.getElem_drop, e1, e2]
  rw [List.getElem?_eq_getElem (by omega)]; rfl
theorem readL_of {V : Int → ByteArray} {st sz off n : Nat} {T : List UInt8} (h : ∀ i, i < T.length → (V ((st : Int) + ((i / sz : Nat) : Int))).data.toList[i % sz]? = T[i]?) (hn : off + n ≤ T.length) : readL V st sz off n = (T.drop off).take n := by
  refine List.ext_getElem (by rw [readL_len, List.length_take, List.length_drop]; omega) fun j h1 h2 => ?_
  rw [readL_len] at h1
  simp only [readL, List.getElem_map, List.getElem_range, List.getElem_take, List.getElem_drop]
  rw [h (off + j) (by omega), List.getElem?_eq_getElem (by omega)]
  rfl
theorem extract_list (t : ByteArray) (a b : Nat) : (t.extract a b).data.toList = (t.data.toList.drop a).take (b - a) := by
  rw [ByteArray.data_extract, Array.toList_extract]
/-- a number, by its bytes -/
def numB (l : List UInt8) : Nat := l.foldl (fun n b => n * 256 + b.toNat) 0
theorem numB_snoc (l : List UInt8) (b : UInt8) : numB (l ++ [b]) = numB l * 256 + b.toNat := by simp [numB]
theorem numB_lt (l : List UInt8) : numB l < 256 ^ l.length := by
  have key : ∀ (l : List UInt8) (a k : Nat), a < 256 ^ k → l.foldl (fun n b => n * 256 + b.toNat) a < 256 ^ (k + l.length) := by
    intro l
    induction l with
    | nil => intro a k h; exact h
    | cons b l ih =>
      intro a k h
      show l.foldl _ (a * 256 + b.toNat) < _
      have q := ih (a * 256 + b.toNat) (k + 1) (by rw [Nat.pow_succ]; have := b.toNat_lt; omega)
      rw [List.length_cons, show k + (l.length + 1) = k + 1 + l.length by omega]; exact q
  have := key l 0 0 (by simp)
  rwa [Nat.zero_add] at this
theorem bytesN_succ (n width : Nat) : bytesN n (width + 1) = bytesN (n / 256) width ++ [UInt8.ofNat (n % 256)] := by
  unfold bytesN
  rw [List.range_succ, List.map_append]
  congr 1
  · refine List.map_congr_left fun k hk => ?_
    have hk := List.mem_range.1 hk
    rw [show width + 1 - 1 - k = (width - 1 - k) + 1 by omega, Nat.mul_add, Nat.pow_add, Nat.mul_comm (2 ^ _), ← Nat.div_div_eq_div_mul]
  · simp
theorem numB_bytesN : ∀ (width n : Nat), n < 256 ^ width → numB (bytesN n width) = n
  | 0, n, h => by
    have : n = 0 := by simpa using h
    subst this; rfl
  | width + 1, n, h => by
    rw [bytesN_succ, numB_snoc, numB_bytesN width (n / 256) (by rw [Nat.pow_succ] at h; omega), UInt8.toNat_ofNat', Nat.mod_eq_of_lt (show n % 256 < 2 ^ 8 by omega)]
    omega
theorem wraps9_64 (n : Int) (h₀ : 0 ≤ n) (h₁ : n < 2 ^ 64) : IntKind.u64.wrap n = n := by rw [IntKind.wrap_u64]; omega
theorem numB_take (l : List UInt8) (k : Nat) (h : k < l.length) : numB (l.take (k + 1)) = numB (l.take k) * 256 + l[k].toNat := by rw [List.take_succ_eq_append_getElem h, numB_snoc]
theorem numB_small (l : List UInt8) (k : Nat) (h : k ≤ 7) : numB (l.take k) < 72057594037927936 := by
  refine Nat.lt_of_lt_of_le (numB_lt _) ?_
  calc 256 ^ (l.take k).length ≤ 256 ^ 7 := Nat.pow_le_pow_right (by decide) (by rw [List.length_take]; omega)
    _ = 72057594037927936 := by decide

set_option maxRecDepth 100000 in
set_option maxHeartbeats 1600000 in
theorem number_any (w : World) (s : ByteArray) (hs : s.size ≤ 8) :
    Calls Tryz.prog 49 #[.string s] w fun e w' => e = .returned (.int .u64 ((numB s.data.toList : Nat) : Int)) ∧ Below w.heap.size w w' := by
  have hcv := fun W : World => run_bytes_of_string (P := Tryz.prog) W 9 55 5 s Tryz.underlying9 Tryz.underlying55 Tryz.underlying5
  have hl : s.data.toList.length = s.size := Array.length_toList
  go_enter Tryz.func49, Tryz.ntmps49
  go_wp2_with fail
  clear hcv
  obtain ⟨gc, hgc⟩ : ∃ gc, grownCap w s.size 0 5 = gc := ⟨_, rfl⟩
  have hgl : s.size ≤ gc := by rw [← hgc]; exact grownCap_ge _ _ _ _
  rw [hgc]
  clear hgc
  have BR2 : Hid (BR ((w.alloc (.cells (bytesRow s gc) 5 ((bytesRow s gc).size, (bytesRow s gc).size + 1))).drew) w.heap.size s.data.toList) := Lib.hid (BR.made w s gc 5)
  have B2 : Hid (Below w.heap.size w ((w.alloc (.cells (bytesRow s gc) 5 ((bytesRow s gc).size, (bytesRow s gc).size + 1))).drew)) := Lib.hid ((Below.refl _ w).alloc (Nat.le_refl _) _).drew
  change Code.wp _ _ _ _ ((World.alloc w _).drew)
  generalize (w.alloc _).drew = W2 at BR2 B2 ⊢
  go_loop [2, 8] (fun n i => ∃ k v : Nat, k ≤ s.size ∧ i = .int .i64 k ∧ n = .int .u64 v ∧ v = numB (s.data.toList.take k)) (fun _ i => s.size - (intOf i).toNat)
  case atStart => exact ⟨0, 0, Nat.zero_le _, rfl, rfl, rfl⟩
  case round =>
    obtain ⟨k, v, hk, rfl, rfl, hv⟩ := hrel
    by_cases hlt : k < s.size
    · have hv7 : v < 72057594037927936 := by rw [hv]; exact numB_small _ k (by omega)
      have HS : Hid (256 * v + (s.data.toList[k]'(by omega)).toNat = numB (s.data.toList.take (k + 1))) := Lib.hid (by rw [numB_take _ k (by omega), hv, Nat.mul_comm])
      obtain ⟨hcell, -⟩ := BR2.out k (by omega)
      obtain ⟨b, hb⟩ : ∃ b, (s.data.toList[k]'(by omega)).toNat = b := ⟨_, rfl⟩
      have hb2 : b < 256 := by rw [← hb]; exact UInt8.toNat_lt _
      rw [hb] at HS hcell
      clear hv hb
      have HO : Hid (bits BinOp.or IntKind.u64 ((v : Int) * 256) (b : Int) = ((256 * v + b : Nat) : Int)) := Lib.hid (by
        have h1 := (bits_nat .u64 64 (by decide) wraps9_64 (v * 2 ^ 8) b (by omega) (by omega)).2
        have h2 : v * 2 ^ 8 ||| b = 256 * v + b := by
          rw [Nat.mul_comm v, ← Nat.two_pow_add_eq_or_of_lt (i := 8) hb2]
        rw [h2] at h1
        rw [← h1]
        congr 1)
      go_wp2
      rw [HO.out]
      refine ⟨⟨k + 1, 256 * v + b, by omega, by go_num, rfl, HS.out⟩, ?_⟩
      simp [intOf]
      omega
    · have E : Hid (v = numB s.data.toList) := Lib.hid (by rw [hv, List.take_of_length_le (by omega)])
      clear hv
      go_wp2
      go_ret
      exact ⟨by rw [E.out]; rfl, B2.out⟩

/-! ### a reader -/
def rdCells (sb st ln L S : Nat) : Array Value := #[.pointer (some ⟨sb, 0, none⟩), .int .i64 (st : Int), .int .i64 (ln : Int), .int .i64 (L : Int), .int .u32 (S : Int)]
def RI (w : World) (rb sb st ln L S : Nat) : Prop := w.heap[rb]? = some (.cells (rdCells sb st ln L S) 128 (0, 0))
theorem RI.cells {w : World} {rb sb st ln L S : Nat} (h : RI w rb sb st ln L S) : w.cell? ⟨rb, 0, none⟩ = some (.pointer (some ⟨sb, 0, none⟩)) ∧ w.cell? ⟨rb, 1, none⟩ = some (.int .i64 (st : Int)) ∧ w.cell? ⟨rb, 2, none⟩ = some (.int .i64 (ln : Int)) ∧ w.cell? ⟨rb, 3, none⟩ = some (.int .i64 (L : Int)) ∧ w.cell? ⟨rb, 4, none⟩ = some (.int .u32 (S : Int)) ∧ ∀ j, w.frozen? ⟨rb, j, none⟩ = false := by
  refine ⟨?_, ?_, ?_, ?_, ?_, fun j => frozen_of_row _ _ _ _ _ h⟩ <;> (rw [cell_of_row _ _ _ _ _ _ h]; rfl)
theorem RI.frame {w w' : World} {rb sb st ln L S : Nat} (h : RI w rb sb st ln L S) (e : w'.heap[rb]? = w.heap[rb]?) : RI w' rb sb st ln L S := e.trans h
theorem Length_any (w : World) (rb sb st ln L S : Nat) (h : RI w rb sb st ln L S) : Calls Tryz.prog 13 #[.pointer (some ⟨rb, 0, none⟩)] w fun e w' => e = .returned (.int .i64 (L : Int)) ∧ w = w' := by
  obtain ⟨-, -, -, c3, -, -⟩ := h.cells
  clear h
  go_enter Tryz.func13, Tryz.ntmps13
  go_wp2_with fail
  go_ret
  exact ⟨rfl, rfl⟩

set_option maxRecDepth 100000 in
set_option maxHeartbeats 3200000 in
theorem Open_any {Q : Sp → Dev → Prop} (x : Nat → Nat) (r0 c0 d0 : Nat) (w : World) (sb db eb N m st ln L S : Nat) (V : Int → ByteArray) (hs : SQ Q x c0 d0 w sb db eb N m V) (hcd : c0 + 9 < d0 ∨ d0 + 2 < c0) (hr : ¬ PC c0 d0 r0) (h1 : 1 ≤ ln) (h2 : st + ln ≤ 24) (hN : N + 8 < 1099511627776)
    (hf : (V ((st : Int) + (ln : Int) - 1)).data.toList.drop (512 * m - 12) = bytesN L 8 ++ bytesN S 4) (hL : L ≤ ln * (512 * m) - 12) (hS : S < 4294967296) :
    Calls Tryz.prog 12 #[.pointer (some ⟨sb, 0, none⟩), .agg #[.int .i64 (st : Int), .int .i64 (ln : Int)]] w fun e w' => ∃ rb x', e = .returned (.tuple #[.pointer (some ⟨rb, 0, none⟩), .int .i64 0]) ∧
      Fr x x' (fun e => PC c0 d0 e ∨ e = r0) w w' ∧ RI w' rb sb st ln L S ∧ x' rb = r0 ∧ w.heap.size ≤ rb ∧ SQ Q x' c0 d0 w' sb db eb (N + 8) m V := by
  have hm := hs.size
  have hmp : ln * (512 * m) ≤ 98304 := by have := Nat.mul_le_mul (show ln ≤ 24 by omega) (show 512 * m ≤ 4096 by omega); omega
  have hp1 : 512 ≤ ln * (512 * m) := by have := Nat.mul_le_mul h1 (show 512 ≤ 512 * m by omega); omega
  have hVs := hs.text ((st : Int) + (ln : Int) - 1)
  have S0 := Lib.hid hs
  obtain ⟨sz, hsz⟩ : ∃ sz, 512 * m = sz := ⟨_, rfl⟩
  obtain ⟨p, hp⟩ : ∃ p, ln * sz = p := ⟨_, rfl⟩
  obtain ⟨t, ht⟩ : ∃ t, V ((st : Int) + (ln : Int) - 1) = t := ⟨_, rfl⟩
  have hsz1 : 512 ≤ sz ∧ sz ≤ 4096 := by omega
  rw [ht, hsz] at hVs hf
  rw [hsz] at hL hmp hp1
  rw [hp] at hL hmp hp1
  have HSZ := Lib.hid hsz
  have HP := Lib.hid hp
  have HT := Lib.hid ht
  have HVS := Lib.hid hVs
  have HF := Lib.hid hf
  clear hs hsz hp ht hf
  go_enter Tryz.func12, Tryz.ntmps12
  go_wp2_with fail
  have hb0 : Below w.heap.size w ((w.alloc (.cells #[.int .i64 (st : Int), .int .i64 (ln : Int)] 34)).alloc (.cells #[.pointer (some ⟨sb, 0, none⟩), .int .i64 (st : Int), .int .i64 (ln : Int), .int .i64 0, .int .u32 0] 128)) := ((Below.refl _ w).alloc (Nat.le_refl _) _).alloc (by simp) _
  have hf0 : Fr x (paint x w.heap.size r0) (fun e => e = r0) w ((w.alloc (.cells #[.int .i64 (st : Int), .int .i64 (ln : Int)] 34)).alloc (.cells #[.pointer (some ⟨sb, 0, none⟩), .int .i64 (st : Int), .int .i64 (ln : Int), .int .i64 0, .int .u32 0] 128)) := Fr.of_below hb0 rfl
  have g2 := World.alloc_heap_new (w.alloc (.cells #[.int .i64 (st : Int), .int .i64 (ln : Int)] 34)) (.cells #[.pointer (some ⟨sb, 0, none⟩), .int .i64 (st : Int), .int .i64 (ln : Int), .int .i64 0, .int .u32 0] 128)
  rw [World.size_alloc] at g2
  have g1 : ((w.alloc (.cells #[.int .i64 (st : Int), .int .i64 (ln : Int)] 34)).alloc (.cells #[.pointer (some ⟨sb, 0, none⟩), .int .i64 (st : Int), .int .i64 (ln : Int), .int .i64 0, .int .u32 0] 128)).heap[w.heap.size]? = some (.cells #[.int .i64 (st : Int), .int .i64 (ln : Int)] 34 (0, 0)) := (Below.heap_alloc _ _ _ (by rw [World.size_alloc]; omega)).trans (World.alloc_heap_new w _)
  have F0 := Lib.hid hf0
  have G1 := Lib.hid g1
  have G2 := Lib.hid g2
  have X1 : Hid (paint x w.heap.size r0 w.heap.size = r0) := Lib.hid (paint_new (Nat.le_refl _))
  have X2 : Hid (paint x w.heap.size r0 (w.heap.size + 1) = r0) := Lib.hid (paint_new (by omega))
  have S1 := Lib.hid (S0.out.frame hf0 (fun e he hc => by subst hc; exact hr (PD_PC c0 d0 _ he)))
  clear hb0 hf0 g1 g2 S0
  generalize World.alloc (World.alloc w _) _ = W1 at F0 G1 G2 S1 ⊢
  generalize paint x w.heap.size r0 = x0 at F0 X1 X2 S1
  refine (check_any x0 c0 d0 sb db eb N m V W1 st ln S1.out.sv h1 h2).mono ?_
  rintro e w2 ⟨rfl, hb2⟩
  have f2 : Fr x0 (paint x0 W1.heap.size r0) (fun e => e = r0) W1 w2 := Fr.of_below hb2 rfl
  have S2 := Lib.hid (S1.out.frame f2 (fun e he hc => by subst hc; exact hr (PD_PC c0 d0 _ he)))
  have F2 := Lib.hid (F0.out.trans f2)
  have G3 := Lib.hid ((hb2.block _ (lt_of_block G1.out)).trans G1.out)
  have G4 := Lib.hid ((hb2.block _ (lt_of_block G2.out)).trans G2.out)
  have X3 := Lib.hid ((f2.col _ (lt_of_block G1.out)).trans X1.out)
  have X4 := Lib.hid ((f2.col _ (lt_of_block G2.out)).trans X2.out)
  clear hb2 f2 S1 F0 G1 G2 X1 X2
  generalize paint x0 W1.heap.size r0 = x1 at S2 F2 X3 X4
  have k0 : w2.cell? ⟨w.heap.size, 0, none⟩ = some (.int .i64 (st : Int)) := by rw [cell_of_row _ _ _ _ _ _ G3.out]; rfl
  have k1 : w2.cell? ⟨w.heap.size, 1, none⟩ = some (.int .i64 (ln : Int)) := by rw [cell_of_row _ _ _ _ _ _ G3.out]; rfl
  have e1 : IntKind.i64.wrap ((st : Int) + (ln : Int)) = (st : Int) + (ln : Int) := IntWalk.i64_in _ (by omega)
  have e2 : IntKind.i64.wrap ((st : Int) + (ln : Int) - 1) = (st : Int) + (ln : Int) - 1 := IntWalk.i64_in _ (by omega)
  go_wp2_with fail
  refine (S2.out.read hcd (no := (st : Int) + (ln : Int) - 1) (by omega) (by omega) hN).mono ?_
  rintro e w3 ⟨rfl, x2, f3, s3⟩
  have F3 := Lib.hid ((F2.out.mono (D := fun e => PC c0 d0 e ∨ e = r0) (fun e he => .inr he)).trans (f3.mono (fun e he => .inl he)))
  have S3 := Lib.hid s3
  have G5 := Lib.hid ((f3.old _ (lt_of_block G4.out) (by rw [X4.out]; exact hr)).trans G4.out)
  have X5 := Lib.hid ((f3.col _ (lt_of_block G4.out)).trans X4.out)
  have hlen : IntKind.i64.wrap ((sz : Int) - 12) = ((sz - 12 : Nat) : Int) := by rw [IntWalk.i64_in _ (by omega)]; omega
  rw [HT.out]
  clear f3 s3 S2 F2 G3 G4 X3 X4 k0 k1 e1 e2
  go_wp2_with fail
  have FOOT : Hid ((t.extract (sz - 12) sz).data.toList = bytesN L 8 ++ bytesN S 4) := Lib.hid (by
    rw [extract_list, HF.out, List.take_of_length_le (by rw [List.length_append, bytesN_len, bytesN_len]; omega)])
  obtain ⟨f, hf⟩ : ∃ f, t.extract (sz - 12) sz = f := ⟨_, rfl⟩
  rw [hf] at FOOT
  have hfs : f.size = 12 := by
    have q : f.data.toList.length = f.size := Array.length_toList
    rw [← q, FOOT.out, List.length_append, bytesN_len, bytesN_len]
  rw [hf]
  have A8 : Hid ((f.extract 0 8).data.toList = bytesN L 8) := Lib.hid (by
    rw [extract_list, FOOT.out, List.drop_zero]
    exact List.take_left' (bytesN_len _ _))
  have A4 : Hid ((f.extract 8 12).data.toList = bytesN S 4) := Lib.hid (by
    rw [extract_list, FOOT.out, List.drop_left' (bytesN_len _ _)]
    exact List.take_of_length_le (by rw [bytesN_len]; omega))
  have hs8 : (f.extract 0 8).size = 8 := by rw [ByteArray.size_extract]; omega
  have hs4 : (f.extract 8 12).size = 4 := by rw [ByteArray.size_extract]; omega
  have N8 : numB (f.extract 0 8).data.toList = L := by rw [A8.out]; exact numB_bytesN 8 L (by omega)
  have N4 : numB (f.extract 8 12).data.toList = S := by rw [A4.out]; exact numB_bytesN 4 S (by omega)
  have N8 := Lib.hid N8
  have N4 := Lib.hid N4
  have HS8 := Lib.hid hs8
  have HS4 := Lib.hid hs4
  clear hf hs8 hs4
  refine (number_any w3 (f.extract 0 8) (by rw [HS8.out]; omega)).mono ?_
  rintro e w4 ⟨rfl, hb4⟩
  rw [N8.out]
  have B4 := Lib.hid hb4
  have r4 := (hb4.block _ (lt_of_block G5.out)).trans G5.out
  have q0 : w4.cell? ⟨w.heap.size + 1, 0, none⟩ = some (.pointer (some ⟨sb, 0, none⟩)) := by rw [cell_of_row _ _ _ _ _ _ r4]; rfl
  have q1 : w4.cell? ⟨w.heap.size + 1, 1, none⟩ = some (.int .i64 (st : Int)) := by rw [cell_of_row _ _ _ _ _ _ r4]; rfl
  have q2 : w4.cell? ⟨w.heap.size + 1, 2, none⟩ = some (.int .i64 (ln : Int)) := by rw [cell_of_row _ _ _ _ _ _ r4]; rfl
  have S4 := Lib.hid (S3.out.blocks24 w4 hb4)
  clear hb4 r4
  go_wp2_with fail
  refine (room_any x2 c0 d0 sb db eb (N + 8) m V w4 st ln S4.out.sv h1 (by omega)).mono ?_
  rintro e w5 ⟨rfl, hb5⟩
  rw [HSZ.out, HP.out]
  have B5 := Lib.hid (B4.out.trans (hb5.mono B4.out.size))
  clear hb5 B4 S4 q0 q1 q2
  have e3 : IntKind.u64.wrap ((p - 12 : Nat) : Int) = ((p - 12 : Nat) : Int) := IntWalk.u64_in _ (by omega)
  have e4 : IntKind.i64.wrap (L : Int) = (L : Int) := IntWalk.i64_in _ (by omega)
  have e5 : decide (((p - 12 : Nat) : Int) < (L : Int)) = false := decide_eq_false (by omega)
  have e6 : decide ((p - 12 : Nat) < L) = false := decide_eq_false (by omega)
  go_wp2_with fail
  refine (number_any w5 (f.extract 8 12) (by rw [HS4.out]; omega)).mono ?_
  rintro e w6 ⟨rfl, hb6⟩
  rw [N4.out]
  have B6 := Lib.hid (B5.out.trans (hb6.mono B5.out.size))
  have g6 := (B6.out.block _ (lt_of_block G5.out)).trans G5.out
  have q3 : w6.cell? ⟨w.heap.size + 1, 3, none⟩ = some (.int .i64 0) := by rw [cell_of_row _ _ _ _ _ _ g6]; rfl
  have q4 : w6.cell? ⟨w.heap.size + 1, 4, none⟩ = some (.int .u32 0) := by rw [cell_of_row _ _ _ _ _ _ g6]; rfl
  have qf : ∀ j, w6.frozen? ⟨w.heap.size + 1, j, none⟩ = false := fun j => frozen_of_row _ _ _ _ _ g6
  have qf3 := qf 3
  have qf4 := qf 4
  have e7 : IntKind.u32.wrap (S : Int) = (S : Int) := IntWalk.u32_in _ (by omega)
  have G6 := Lib.hid g6
  clear hb6 B5 g6 qf
  go_wp2_with fail
  refine bodyPost_ret (v := .tuple #[.pointer (some ⟨w.heap.size + 1, 0, none⟩), .int .i64 0]) (by simp [results, Tryz.f12, go_sem]) rfl ?_
  have f6 : Fr x2 (paint x2 w3.heap.size r0) (fun e => e = r0) w3 w6 := Fr.of_below B6.out rfl
  have x6 : paint x2 w3.heap.size r0 (w.heap.size + 1) = r0 := (f6.col _ (lt_of_block G5.out)).trans X5.out
  have f7 : Fr (paint x2 w3.heap.size r0) (paint x2 w3.heap.size r0) (fun e => e = r0) w6 ((w6.setCell ⟨w.heap.size + 1, 3, none⟩ (.int .i64 (L : Int))).setCell ⟨w.heap.size + 1, 4, none⟩ (.int .u32 (S : Int))) := Fr.same rfl rfl rfl (by simp) (fun b _ hC => by
    have hne : b ≠ w.heap.size + 1 := by rintro rfl; exact hC x6
    rw [Below.heap_setCell _ _ _ _ hne, Below.heap_setCell _ _ _ _ hne])
  refine ⟨_, _, rfl, F3.out.trans ((f6.trans f7).mono (fun e he => .inr he)), ?_, x6, by omega, (S3.out.frame f6 (fun e he hc => by subst hc; exact hr (PD_PC c0 d0 _ he))).frame f7 (fun e he hc => by subst hc; exact hr (PD_PC c0 d0 _ he))⟩
  unfold RI
  rw [heap_setCell_same _ (w.heap.size + 1) 4 _ _ _ (heap_setCell_same w6 (w.heap.size + 1) 3 _ _ _ G6.out)]
  rfl

end Go.Proofs.YtbgbomlmgkgkoaaGreat.st

namespace Go.Proofs.YtbgbomlmgkgkoaaGreat.st
open Go.RowKit Go.Proofs.YtbgbomlmgkgkoaaGreat.own Go.Proofs.YtbgbomlmgkgkoaaGreat.dv Go.Proofs.YtbgbomlmgkgkoaaGreat.po Go.Proofs.YtbgbomlmgkgkoaaGreat.arcI

section
set_option maxRecDepth 100000
set_option maxHeartbeats 1000000
theorem str_exact (b g cap : Nat) (l : List UInt8) (sz : Nat) (w : World) (h0 : l ≠ []) (hcap : cap ≠ 0) (hn : l.length ≤ sz) (h63 : l.length ≤ 9223372036854775807)
    (c1 : w.cell? ⟨b, 1, none⟩ = some (.slice (some ⟨g, 0, none⟩) l.length cap)) (hsh : w.shape? g = some (5, sz))
    (hcell : ∀ j x, l[j]? = some x → w.cell? ((⟨g, 0, none⟩ : Addr).add j) = some (.int .u8 x.toNat)) :
    Calls Tryz.prog 54 #[.pointer (some ⟨b, 0, none⟩)] w fun e w' => e = .returned (.string ⟨l.toArray⟩) ∧ w' = w.drew.freeze ⟨g, 0, none⟩ l.length := by
  have c1' : w.drew.cell? ⟨b, 1, none⟩ = some (.slice (some ⟨g, 0, none⟩) l.length cap) := c1
  have hSD : (Builtin.unsafeSliceData_ #[55] 203 #[.slice (some ⟨g, 0, none⟩) l.length cap]).run Tryz.prog w.drew = .ok (.pointer (some ⟨g, 0, none⟩)) w.drew :=
    Lib.run_unsafeSliceData_row _ _ _ _ _ _ hcap
  have hUS : (Builtin.unsafeString_ #[203, 3] 9 #[.pointer (some ⟨g, 0, none⟩), .int .i64 l.length]).run Tryz.prog w.drew = .ok (.string ⟨l.toArray⟩) (w.drew.freeze ⟨g, 0, none⟩ l.length) :=
    Lib.run_unsafeString_row w.drew _ _ _ 5 Tryz.underlying203 (by kernel_rfl) g sz hsh l h0 hn h63 hcell
  have mixed : Tryz.prog.follows .mixedOrders = true := by kernel_rfl
  clear c1 hcell hsh hcap
  go_enter Tryz.func54, Tryz.ntmps54
  go_wp2
  go_region_o
  all_goals (go_wp2; go_ret; exact ⟨rfl, rfl⟩)

theorem str_none (b : Nat) (w : World) (c1 : w.cell? ⟨b, 1, none⟩ = some (.slice none 0 0)) :
    Calls Tryz.prog 54 #[.pointer (some ⟨b, 0, none⟩)] w fun e w' => e = .returned (.string ⟨#[]⟩) ∧ Below w.heap.size w w' := by
  have c1' : w.drew.cell? ⟨b, 1, none⟩ = some (.slice none 0 0) := c1
  have hSD : (Builtin.unsafeSliceData_ #[55] 203 #[.slice none 0 0]).run Tryz.prog w.drew = .ok (.pointer none) w.drew := Lib.run_unsafeSliceData_nil _ _ _ _ _
  have hUS : (Builtin.unsafeString_ #[203, 3] 9 #[.pointer none, .int .i64 0]).run Tryz.prog w.drew = .ok (.string ⟨#[]⟩) w.drew := Lib.run_unsafeString_none w.drew _ _ _ none
  have mixed : Tryz.prog.follows .mixedOrders = true := by kernel_rfl
  clear c1
  go_enter Tryz.func54, Tryz.ntmps54
  go_wp2
  go_region_o
  all_goals (go_wp2; go_ret; exact ⟨rfl, Below.drew (Below.refl _ w)⟩)

theorem cc_used (b : Nat) (w : World) (h0 : w.cell? ⟨b, 0, none⟩ = some (.pointer (some ⟨b, 0, none⟩))) :
    Calls Tryz.prog 99 #[.pointer (some ⟨b, 0, none⟩)] w fun e w' => e = .returned (.tuple #[]) ∧ w' = w := by
  obtain ⟨j, hj, _⟩ := Option.map_eq_some_iff.1 (show (Tryz.prog.info? 135).map (·.size) = some 2 by kernel_rfl)
  go_enter Tryz.func99, Tryz.ntmps99
  go_wp2
  rw [Lib.run_neq_ptr_same w _ Tryz.underlying133 hj]
  go_wp2
  go_end0
  exact ⟨rfl, rfl⟩
theorem cc_fresh (b : Nat) (w : World) (h0 : w.cell? ⟨b, 0, none⟩ = some (.pointer none)) (hsh : w.shape? b = some (135, 2)) (hfz : w.frozen? ⟨b, 0, none⟩ = false) :
    Calls Tryz.prog 99 #[.pointer (some ⟨b, 0, none⟩)] w fun e w' => e = .returned (.tuple #[]) ∧ w' = w.setCell ⟨b, 0, none⟩ (.pointer (some ⟨b, 0, none⟩)) := by
  obtain ⟨j, hj, hjs⟩ := Option.map_eq_some_iff.1 (show (Tryz.prog.info? 135).map (·.size) = some 2 by kernel_rfl)
  go_enter Tryz.func99, Tryz.ntmps99
  go_wp2
  rw [Lib.run_to_unsafe w ⟨b, 0, none⟩ Tryz.underlying133 Tryz.underlying227 hj (by rw [hjs]; decide) hsh (Nat.zero_lt_succ 1)]
  simp only [Result.andThen]
  rw [Oper.upon_value]
  go_wp2
  rw [run_callFunc_extern Tryz.func123 (by kernel_rfl) (by kernel_rfl) (by kernel_rfl) (e := Extern.AbiNoEscape.same) (by kernel_rfl)]
  rw [Lib.run_noEscape]
  simp only [Result.andThen]
  rw [Oper.upon_value]
  go_wp2
  rw [Lib.run_from_unsafe w ⟨b, 0, none⟩ Tryz.underlying227 Tryz.underlying133 hj hsh (by kernel_rfl)]
  simp only [Result.andThen]
  rw [Oper.upon_value]
  go_wp2
  go_end0
  exact ⟨rfl, rfl⟩

end

/-- a text builder that has been given some bytes -/
structure BL (x : Nat → Nat) (r1 : Nat) (w : World) (ob : Nat) (l : List UInt8) : Prop where
  ex : ∃ pv sv, w.heap[ob]? = some (.cells #[pv, sv] 135 (0, 0)) ∧ (pv = .pointer none ∨ pv = .pointer (some ⟨ob, 0, none⟩)) ∧ w.ownsRow 0 5 1 sv l.length (bv l) ∧ (∀ b, sv.ownBlock = some b → x b = r1 + 1) ∧ (l = [] → sv = .slice none 0 0)
  xo : x ob = r1
theorem BL.frame {x x' : Nat → Nat} {C : Nat → Prop} {r1 : Nat} {w w' : World} {ob : Nat} {l : List UInt8} (h : BL x r1 w ob l) (hf : Fr x x' C w w') (h0 : ¬ C r1) (h1 : ¬ C (r1 + 1)) : BL x' r1 w' ob l := by
  obtain ⟨⟨pv, sv, hb, hp, ho, hx, hn⟩, xo⟩ := h
  obtain ⟨a, b⟩ := row_frame hf h1 ho hx
  exact ⟨⟨pv, sv, (hf.old _ (lt_of_block hb) (by rw [xo]; exact h0)).trans hb, hp, a, b, hn⟩, (hf.col _ (lt_of_block hb)).trans xo⟩
/-- its own pointer is laid -/
theorem BL.self {x : Nat → Nat} {r1 : Nat} {w : World} {ob : Nat} {l : List UInt8} (h : BL x r1 w ob l) : BL x r1 (w.setCell ⟨ob, 0, none⟩ (.pointer (some ⟨ob, 0, none⟩))) ob l ∧ Fr x x (fun e => e = r1) w (w.setCell ⟨ob, 0, none⟩ (.pointer (some ⟨ob, 0, none⟩))) := by
  obtain ⟨⟨pv, sv, hb, hp, ho, hx, hn⟩, xo⟩ := h
  refine ⟨⟨⟨.pointer (some ⟨ob, 0, none⟩), sv, ?_, .inr rfl, ?_, hx, hn⟩, xo⟩, Fr.same rfl rfl rfl (by simp) (fun b _ hC => Below.heap_setCell w _ _ _ (by rintro rfl; exact hC xo))⟩
  · rw [heap_setCell_same w ob 0 _ _ _ hb]; rfl
  · exact ho.kept (grownBy_setCell_at w ob 0 _) (.inr (fun e => by have a := hx ob e; omega))
theorem cc_any (x : Nat → Nat) (r1 : Nat) (w : World) (ob : Nat) (l : List UInt8) (h : BL x r1 w ob l) :
    Calls Tryz.prog 99 #[.pointer (some ⟨ob, 0, none⟩)] w fun e w' => e = .returned (.tuple #[]) ∧ Fr x x (fun e => e = r1) w w' ∧ BL x r1 w' ob l := by
  have S := h.self
  obtain ⟨⟨pv, sv, hb, hp, ho, hx, hn⟩, xo⟩ := h
  rcases hp with rfl | rfl
  · refine (cc_fresh ob w (by rw [cell_of_row _ _ _ _ _ _ hb]; rfl) (by unfold World.shape?; rw [hb]; rfl) (frozen_of_row _ _ _ _ _ hb)).mono ?_
    rintro e w' ⟨rfl, rfl⟩
    exact ⟨rfl, S.2, S.1⟩
  · refine (cc_used ob w (by rw [cell_of_row _ _ _ _ _ _ hb]; rfl)).mono ?_
    rintro e w' ⟨rfl, rfl⟩
    exact ⟨rfl, Fr.refl _ _ _, ⟨⟨_, sv, hb, .inr rfl, ho, hx, hn⟩, xo⟩⟩

theorem bv_append9 (a b : List UInt8) : bv (a ++ b) = bv a ++ bv b := by simp [bv]
set_option maxRecDepth 100000 in
set_option maxHeartbeats 1600000 in
theorem WriteString_any (x : Nat → Nat) (r1 : Nat) (w : World) (ob : Nat) (l : List UInt8) (s : ByteArray) (h : BL x r1 w ob l) (hs : 0 < s.size) (hl : l.length + s.size ≤ 1099511627776) :
    Calls Tryz.prog 53 #[.pointer (some ⟨ob, 0, none⟩), .string s] w fun e w' => (∃ v, e = .returned (.tuple v)) ∧ ∃ x', Fr x x' (fun e => e = r1 ∨ e = r1 + 1) w w' ∧ BL x' r1 w' ob (l ++ s.data.toList) := by
  obtain ⟨i0, hi, hz0, hz1, hz2⟩ := info_parts Tryz.infoByte9
  have H := Lib.hid h
  clear h
  go_enter Tryz.func53, Tryz.ntmps53
  go_wp2_with fail
  refine (cc_any x r1 w ob l H.out).mono ?_
  rintro e w1 ⟨rfl, f1, h1⟩
  have F1 := Lib.hid f1
  have B1 := Lib.hid h1
  clear H f1
  obtain ⟨⟨pv, sv, hb, hp, ho, hx, hn⟩, xo⟩ := h1
  have k1 : w1.cell? ⟨ob, 1, none⟩ = some sv := by rw [cell_of_row _ _ _ _ _ _ hb]; rfl
  have kf : w1.frozen? ⟨ob, 1, none⟩ = false := frozen_of_row _ _ _ _ _ hb
  have HB := Lib.hid hb
  have HP := Lib.hid hp
  have HO := Lib.hid ho
  have HX := Lib.hid hx
  have XO := Lib.hid xo
  clear hb hp hx hn xo
  go_wp2_with (at_builtin; refine wpList_append_o _ rfl _ _ 55 9 rfl 0 5 i0 _ hz1 hz0 rfl (by omega) sv l.length (bv l) rfl ho _ s.size (bv s.data.toList) rfl (Go.Proofs.YtbgbomlmgkgkoaaGreat.ev.SrcK.ofSrc Tryz.underlying55 hi (by rw [hz1]; exact Src.ofString _ Tryz.underlying9 s)) (bv_one _) hl (Nat.zero_le _) ?_)
  intro v9 w9 own9 hg9 hw9 old9
  obtain ⟨a9, p9, hv9⟩ := own_shape own9
  subst hv9
  have O9 := Lib.hid own9
  have K9 := Lib.hid hg9
  have W9 := Lib.hid hw9
  have g9 := (hg9.block ob (lt_of_block HB.out) (fun e => by have a := HX.out ob e.symm; have b := XO.out; omega)).trans HB.out
  have c9 : w9.cell? ⟨ob, 1, none⟩ = some sv := by rw [cell_of_row _ _ _ _ _ _ g9]; rfl
  have f9 : w9.frozen? ⟨ob, 1, none⟩ = false := frozen_of_row _ _ _ _ _ g9
  have G9 := Lib.hid g9
  clear own9 hg9 hw9 old9 g9 ho k1 kf
  go_wp2_with fail
  refine bodyPost_ret (v := .tuple #[.int .i64 (s.size : Int), .nilIface]) (by simp [results, Tryz.f53, go_sem]) rfl ?_
  have hro : ∀ b, b < w1.heap.size → sv.ownBlock = some b → x b = r1 + 1 := fun b _ e => HX.out b e
  have hK : Keeps w1 w9 (fun b => sv.ownBlock = some b) := (Keeps.refl w1 _).grown K9.out (fun k hk => .inl hk)
  have f1 : Fr x (paint x w1.heap.size (r1 + 1)) (fun e => e = r1 + 1) w1 w9 := hK.fr rfl hro
  have x9 : paint x w1.heap.size (r1 + 1) ob = r1 := by rw [paint_old (lt_of_block HB.out)]; exact XO.out
  have xr9 : ∀ b, (Value.slice a9 (l.length + s.size) p9).ownBlock = some b → paint x w1.heap.size (r1 + 1) b = r1 + 1 := fun b hb => by
    rcases W9.out with e | e
    · rw [hb] at e
      rw [paint_old (HO.out.lt b e.symm).2]; exact HX.out b e.symm
    · rw [hb] at e
      have := Option.some.inj e
      exact paint_new (by omega)
  have f2 : Fr (paint x w1.heap.size (r1 + 1)) (paint x w1.heap.size (r1 + 1)) (fun e => e = r1) w9 (w9.setCell ⟨ob, 1, none⟩ (.slice a9 (l.length + s.size) p9)) := Fr.same rfl rfl rfl (by simp) (fun b _ hC => Below.heap_setCell w9 _ _ _ (by rintro rfl; exact hC x9))
  have hl9 : (l ++ s.data.toList).length = l.length + s.size := by
    have q : s.data.toList.length = s.size := Array.length_toList
    rw [List.length_append, q]
  refine ⟨⟨_, rfl⟩, _, (F1.out.mono (fun e he => .inl he)).trans ((f1.mono (fun e he => .inr he)).trans (f2.mono (fun e he => .inl he))), ⟨⟨pv, .slice a9 (l.length + s.size) p9, ?_, HP.out, ?_, xr9, fun q => ?_⟩, x9⟩⟩
  · rw [heap_setCell_same w9 ob 1 _ _ _ G9.out]; rfl
  · rw [hl9, bv_append9]
    exact O9.out.kept (grownBy_setCell_at w9 ob 1 _) (.inr (fun e => by have a := xr9 ob e; omega))
  · have q2 := congrArg List.length q
    rw [hl9, List.length_nil] at q2
    omega

theorem frz_heap {w : World} {a : Addr} {n : Nat} (h0 : n ≠ 0) {c : Array Value} {e : TypeId} {fz : Nat × Nat} (hb : w.heap[a.block]? = some (.cells c e fz)) :
    (∃ fz', (w.freeze a n).heap[a.block]? = some (.cells c e fz')) ∧ (∀ x, x ≠ a.block → (w.freeze a n).heap[x]? = w.heap[x]?) ∧ (w.freeze a n).os = w.os ∧ (w.freeze a n).tape = w.tape ∧ (w.freeze a n).output = w.output ∧ (w.freeze a n).heap.size = w.heap.size := by
  obtain ⟨lo, hi⟩ := fz
  unfold World.freeze
  rw [if_neg h0]
  refine ⟨⟨if lo == hi then (a.off, a.off + n) else (min lo a.off, max hi (a.off + n)), ?_⟩, fun x hx => ?_, rfl, rfl, rfl, ?_⟩
  · simp only [Array.getElem?_modify, if_true, hb, Option.map_some]
  · simp only [Array.getElem?_modify]
    rw [if_neg (fun e => hx e.symm)]
  · simp

/-- what a builder has, told -/
theorem String_any (x : Nat → Nat) (r1 : Nat) (w : World) (ob : Nat) (l : List UInt8) (h : BL x r1 w ob l) (hl : l.length ≤ 1099511627776) :
    Calls Tryz.prog 54 #[.pointer (some ⟨ob, 0, none⟩)] w fun e w' => e = .returned (.string ⟨l.toArray⟩) ∧ ∃ x', Fr x x' (fun e => e = r1 ∨ e = r1 + 1) w w' := by
  obtain ⟨⟨pv, sv, hb, hp, ho, hx, hn⟩, xo⟩ := h
  by_cases hl0 : l = []
  · have hsv := hn hl0
    subst hsv
    subst hl0
    refine (str_none ob w (by rw [cell_of_row _ _ _ _ _ _ hb]; rfl)).mono ?_
    rintro e w' ⟨rfl, hb'⟩
    exact ⟨rfl, _, Fr.of_below hb' (.inl rfl)⟩
  · rcases ho.2 with ⟨hv, hz⟩ | ⟨g, cap, cur, hv, hbg, hg, hnc, hcm, hcs, htake⟩
    · exact absurd (List.eq_nil_of_length_eq_zero hz) hl0
    · subst hv
      have hl1 : 0 < l.length := List.length_pos_iff.2 hl0
      have hxg := hx g rfl
      refine (str_exact ob g cap l cur.size w hl0 (by omega) (by omega) (by omega) (by rw [cell_of_row _ _ _ _ _ _ hb]; rfl) (by unfold World.shape?; rw [hg]) (fun j u hj => ?_)).mono ?_
      · have hjl : j < l.length := (List.getElem?_eq_some_iff.1 hj).1
        have q : (cur.toList.take (l.length * 1))[j]? = (bv l)[j]? := by rw [htake]
        rw [Nat.mul_one, List.getElem?_take, if_pos hjl] at q
        rw [Addr.add_lit, Nat.zero_add, cell_of_row _ _ _ _ _ _ hg, ← Array.getElem?_toList, q]
        simp [bv, hj]
      · rintro e w' ⟨rfl, rfl⟩
        obtain ⟨-, z2, z3, z4, z5, z6⟩ := frz_heap (w := w.drew) (a := ⟨g, 0, none⟩) (n := l.length) (by omega) (show w.drew.heap[g]? = _ from hg)
        exact ⟨rfl, x, Fr.same z3 z4 z5 z6 (fun b _ hC => z2 b (by rintro rfl; exact hC (.inr hxg)))⟩

def RC (c0 d0 q0 : Nat) : Nat → Prop := fun e => PC c0 d0 e ∨ e = q0 ∨ e = q0 + 1
/-- what stands in a round of ReadAt -/
structure RR (Q : Sp → Dev → Prop) (x : Nat → Nat) (c0 d0 q0 : Nat) (w : World) (rb sb db eb N m st ln L S ob : Nat) (V : Int → ByteArray) (l : List UInt8) (wr : World) : Prop where
  ex : ∃ x', Fr x x' (RC c0 d0 q0) w wr ∧ SQ Q x' c0 d0 wr sb db eb N m V ∧ BL x' q0 wr ob l ∧ RI wr rb sb st ln L S ∧ x' rb = x rb
theorem RR.mono {Q : Sp → Dev → Prop} {x : Nat → Nat} {c0 d0 q0 : Nat} {w : World} {rb sb db eb N m st ln L S ob : Nat} {V : Int → ByteArray} {l : List UInt8} {wr : World} (h : RR Q x c0 d0 q0 w rb sb db eb N m st ln L S ob V l wr) {N' : Nat} (hN : N ≤ N') : RR Q x c0 d0 q0 w rb sb db eb N' m st ln L S ob V l wr := by
  obtain ⟨x', f, s, b, r, e⟩ := h; exact ⟨x', f, s.mono hN, b, r, e⟩
theorem RR.below {Q : Sp → Dev → Prop} {x : Nat → Nat} {c0 d0 q0 : Nat} {w : World} {rb sb db eb N m st ln L S ob : Nat} {V : Int → ByteArray} {l : List UInt8} {wr : World} (h : RR Q x c0 d0 q0 w rb sb db eb N m st ln L S ob V l wr) (hq : ¬ PC c0 d0 q0) {wc : World} (hb : Below wr.heap.size wr wc) : RR Q x c0 d0 q0 w rb sb db eb N m st ln L S ob V l wc := by
  obtain ⟨x', f, s, b, r, e⟩ := h
  have f2 : Fr x' (paint x' wr.heap.size q0) (fun e => e = q0) wr wc := Fr.of_below hb rfl
  refine ⟨_, f.trans (f2.mono (fun e he => .inr (.inl he))), s.frame f2 (fun e he hc => hq (by rw [← hc]; exact PD_PC c0 d0 _ he)), ?_, r.frame (hb.block _ (lt_of_block r)), by rw [paint_old (lt_of_block r)]; exact e⟩
  obtain ⟨⟨pv, sv, hb1, hp, ho, hx, hn⟩, xo⟩ := b
  exact ⟨⟨pv, sv, (hb.block _ (lt_of_block hb1)).trans hb1, hp, own_below ho hb, fun b hb2 => by rw [paint_old (ho.lt b hb2).2]; exact hx b hb2, hn⟩, by rw [paint_old (lt_of_block hb1)]; exact xo⟩
theorem RR.read {Q : Sp → Dev → Prop} {x : Nat → Nat} {c0 d0 q0 : Nat} {w : World} {rb sb db eb N m st ln L S ob : Nat} {V : Int → ByteArray} {l : List UInt8} {wr : World} (h : RR Q x c0 d0 q0 w rb sb db eb N m st ln L S ob V l wr) (hcd : c0 + 9 < d0 ∨ d0 + 2 < c0) (hq0 : ¬ PC c0 d0 q0) (hq1 : ¬ PC c0 d0 (q0 + 1)) (hxr : ¬ PC c0 d0 (x rb)) {no : Int} (h0 : 0 ≤ no) (h1 : no < 24) (hN : N + 8 < 1099511627776) :
    Calls Tryz.prog 48 #[.pointer (some ⟨sb, 0, none⟩), .int .i64 no] wr fun e w' => e = .returned (.tuple #[.string (V no), .int .i64 0]) ∧ RR Q x c0 d0 q0 w rb sb db eb (N + 8) m st ln L S ob V l w' := by
  obtain ⟨x', f, s, b, r, e⟩ := h
  refine (s.read hcd h0 h1 hN).mono ?_
  rintro e w' ⟨rfl, x2, f2, s2⟩
  exact ⟨rfl, x2, f.trans (f2.mono (fun e he => .inl he)), s2, b.frame f2 hq0 hq1, r.frame (f2.old _ (lt_of_block r) (by rw [‹x' rb = x rb›]; exact hxr)), (f2.col _ (lt_of_block r)).trans ‹x' rb = x rb›⟩
theorem RR.write {Q : Sp → Dev → Prop} {x : Nat → Nat} {c0 d0 q0 : Nat} {w : World} {rb sb db eb N m st ln L S ob : Nat} {V : Int → ByteArray} {l : List UInt8} {wr : World} (h : RR Q x c0 d0 q0 w rb sb db eb N m st ln L S ob V l wr) (hq0 : ¬ PC c0 d0 q0) (hq1 : ¬ PC c0 d0 (q0 + 1)) (hxr : x rb ≠ q0 ∧ x rb ≠ q0 + 1) (t : ByteArray) (ht : 0 < t.size) (hl : l.length + t.size ≤ 1099511627776) :
    Calls Tryz.prog 53 #[.pointer (some ⟨ob, 0, none⟩), .string t] wr fun e w' => (∃ v, e = .returned (.tuple v)) ∧ RR Q x c0 d0 q0 w rb sb db eb N m st ln L S ob V (l ++ t.data.toList) w' := by
  obtain ⟨x', f, s, b, r, e⟩ := h
  refine (WriteString_any x' q0 wr ob l t b ht hl).mono ?_
  rintro e w' ⟨he, x2, f2, b2⟩
  exact ⟨he, x2, f.trans (f2.mono (fun e he => .inr he)), s.frame f2 (fun e he hc => by rcases hc with rfl | rfl; exact hq0 (PD_PC c0 d0 _ he); exact hq1 (PD_PC c0 d0 _ he)), b2, r.frame (f2.old _ (lt_of_block r) (by rw [‹x' rb = x rb›]; rintro (q | q); exact hxr.1 q; exact hxr.2 q)), (f2.col _ (lt_of_block r)).trans ‹x' rb = x rb›⟩
theorem RR.cells {Q : Sp → Dev → Prop} {x : Nat → Nat} {c0 d0 q0 : Nat} {w : World} {rb sb db eb N m st ln L S ob : Nat} {V : Int → ByteArray} {l : List UInt8} {wr : World} (h : RR Q x c0 d0 q0 w rb sb db eb N m st ln L S ob V l wr) : wr.cell? ⟨rb, 0, none⟩ = some (.pointer (some ⟨sb, 0, none⟩)) ∧ wr.cell? ⟨rb, 1, none⟩ = some (.int .i64 (st : Int)) := by
  obtain ⟨x', f, s, b, r, e⟩ := h; exact ⟨r.cells.1, r.cells.2.1⟩

set_option maxRecDepth 100000 in
set_option maxHeartbeats 6400000 in
theorem ReadAt_any {Q : Sp → Dev → Prop} (x : Nat → Nat) (q0 c0 d0 : Nat) (w : World) (rb sb db eb N m st ln L S : Nat) (V : Int → ByteArray) (hs : SQ Q x c0 d0 w sb db eb N m V) (hri : RI w rb sb st ln L S) (hcd : c0 + 9 < d0 ∨ d0 + 2 < c0) (hq0 : ¬ PC c0 d0 q0) (hq1 : ¬ PC c0 d0 (q0 + 1)) (hxr : ¬ PC c0 d0 (x rb)) (hxq : x rb ≠ q0 ∧ x rb ≠ q0 + 1)
    (h1 : 1 ≤ ln) (h2 : st + ln ≤ 24) (hL : L ≤ ln * (512 * m) - 12) (off n : Nat) (hon : off + n ≤ L) (hN : N + 8 * n + 8 < 1099511627776) :
    Calls Tryz.prog 15 #[.pointer (some ⟨rb, 0, none⟩), .int .i64 (off : Int), .int .i64 (n : Int)] w fun e w' => e = .returned (.tuple #[.string ⟨(readL V st (512 * m) off n).toArray⟩, .int .i64 0]) ∧ ∃ x', Fr x x' (RC c0 d0 q0) w w' ∧ SQ Q x' c0 d0 w' sb db eb (N + 8 * n) m V := by
  have hm := hs.size
  have hmp : ln * (512 * m) ≤ 98304 := by have := Nat.mul_le_mul (show ln ≤ 24 by omega) (show 512 * m ≤ 4096 by omega); omega
  have hVs := hs.text
  have S0 := Lib.hid hs
  have R0 := Lib.hid hri
  have SZ := Lib.hid hs.Size
  obtain ⟨sz, hsz⟩ : ∃ sz, 512 * m = sz := ⟨_, rfl⟩
  have hsz1 : 512 ≤ sz ∧ sz ≤ 4096 := by omega
  rw [hsz] at hL hmp hVs SZ ⊢
  have HVS := Lib.hid hVs
  have HL := Lib.hid hL
  have hL2 : L ≤ 98304 := by omega
  clear hs hri hsz hVs hL hmp
  obtain ⟨c0', c1', -, c3', -, -⟩ := R0.out.cells
  have e0 : decide ((off : Int) < 0) = false := decide_eq_false (by omega)
  have e6 : decide ((n : Int) < 0) = false := decide_eq_false (by omega)
  have e1 : IntKind.i64.wrap ((L : Int) - (off : Int)) = ((L - off : Nat) : Int) := by rw [IntWalk.i64_in _ (by omega)]; omega
  have e2 : decide ((L : Int) < (off : Int)) = false := decide_eq_false (by omega)
  have e3 : decide (L < off) = false := decide_eq_false (by omega)
  have e4 : decide (((L - off : Nat) : Int) < (n : Int)) = false := decide_eq_false (by omega)
  have e5 : decide (L - off < n) = false := decide_eq_false (by omega)
  go_enter Tryz.func15, Tryz.ntmps15
  go_wp2_with fail
  refine SZ.out.mono ?_
  rintro e w1 ⟨rfl, rfl⟩
  go_wp2_with fail
  have hb0 : Below w.heap.size w (w.alloc (.cells #[.pointer none, .slice none 0 0] 135)) := (Below.refl _ w).alloc (Nat.le_refl _) _
  have hf0 : Fr x (paint x w.heap.size q0) (fun e => e = q0) w (w.alloc (.cells #[.pointer none, .slice none 0 0] 135)) := Fr.of_below hb0 rfl
  have RS : Hid (RR Q x c0 d0 q0 w rb sb db eb N m st ln L S w.heap.size V (readL V st sz off 0) (w.alloc (.cells #[.pointer none, .slice none 0 0] 135))) := Lib.hid ⟨_, hf0.mono (fun e he => .inr (.inl he)), S0.out.frame hf0 (fun e he hc => hq0 (by rw [← hc]; exact PD_PC c0 d0 _ he)), ⟨⟨_, _, World.alloc_heap_new w _, .inl rfl, World.ownsRow_nil _ _ _ _, fun b hb => by simp [Value.ownBlock] at hb, fun _ => rfl⟩, paint_new (Nat.le_refl _)⟩, R0.out.frame (hb0.block _ (lt_of_block R0.out)), paint_old (lt_of_block R0.out)⟩
  clear hb0 hf0 S0 R0 c0' c1' c3' SZ e1 e2 e3 e4 e5
  generalize World.alloc w _ = W1 at RS ⊢
  generalize hob : w.heap.size = ob at RS ⊢
  clear hob
  go_loopw [1, 2] (fun o nn wr => ∃ d : Nat, d ≤ n ∧ o = .int .i64 ((off + d : Nat) : Int) ∧ nn = .int .i64 ((n - d : Nat) : Int) ∧ RR Q x c0 d0 q0 w rb sb db eb (N + 8 * d) m st ln L S ob V (readL V st sz off d) wr) (fun _ nn _ => (intOf nn).toNat)
  case atStart => exact ⟨0, by omega, rfl, rfl, RS.out⟩
  case round =>
    obtain ⟨d, hd, rfl, rfl, hR⟩ := hrel
    have HR := Lib.hid hR
    obtain ⟨c0', c1'⟩ := hR.cells
    clear hR
    by_cases hlt : d < n
    · obtain ⟨o, ho⟩ : ∃ o, off + d = o := ⟨_, rfl⟩
      obtain ⟨n2, hn2⟩ : ∃ n2, n - d = n2 := ⟨_, rfl⟩
      obtain ⟨q, hq⟩ : ∃ q, o / sz = q := ⟨_, rfl⟩
      obtain ⟨r, hr⟩ : ∃ r, o % sz = r := ⟨_, rfl⟩
      rw [ho, hn2]
      have e1 : Int.tdiv (o : Int) (sz : Int) = (q : Int) := by rw [← Int.ofNat_tdiv, hq]
      have e2 : Int.tmod (o : Int) (sz : Int) = (r : Int) := by rw [← Int.ofNat_tmod, hr]
      have hqr := Nat.div_add_mod o sz
      rw [hq, hr] at hqr
      have hrs : r < sz := by rw [← hr]; exact Nat.mod_lt _ (by omega)
      have hql : q < ln := by
        rw [← hq]
        exact Nat.div_lt_of_lt_mul (by have := HL.out; rw [Nat.mul_comm]; omega)
      have hol : o ≤ 98304 := by omega
      have e3 : IntKind.i64.wrap ((st : Int) + (q : Int)) = (st : Int) + (q : Int) := IntWalk.i64_in _ (by omega)
      have hsz0 : ¬ ((sz : Int) = 0) := by omega
      have hsz9 : ¬ (sz = 0) := by omega
      have e5 : IntKind.i64.wrap (q : Int) = (q : Int) := IntWalk.i64_in _ (by omega)
      have hn3 : 0 < n2 := by omega
      have HQ := Lib.hid hq
      have HRM := Lib.hid hr
      have HQR := Lib.hid hqr
      have HO := Lib.hid ho
      have HN2 := Lib.hid hn2
      clear hq hr hqr ho hn2
      go_upto_region 8 with fail
      have R2 : wr.drew.cell? ⟨rb, 0, none⟩ = some (.pointer (some ⟨sb, 0, none⟩)) ∧ wr.drew.cell? ⟨rb, 1, none⟩ = some (.int .i64 (st : Int)) := ⟨c0', c1'⟩
      have W4B : Hid (RR Q x c0 d0 q0 w rb sb db eb (N + 8 * d) m st ln L S ob V (readL V st sz off d) wr.drew) := Lib.hid (HR.out.below hq0 (Below.refl _ _).drew)
      have z0 : (0 : Int) ≤ (st : Int) + (q : Int) := by omega
      have z1 : (st : Int) + (q : Int) < 24 := by omega
      have z2 : N + 8 * d + 8 < 1099511627776 := by omega
      clear HR c0' c1'
      go_region_held3 (fun w' => w'.cell? ⟨rb, 0, none⟩ = some (.pointer (some ⟨sb, 0, none⟩)) ∧ w'.cell? ⟨rb, 1, none⟩ = some (.int .i64 (st : Int)))
        (first
        | (with_reducible assumption)
        | (exact R2))
        (first
        | (go_at_call 48; with_reducible refine Calls.mono (W4B.out.read hcd hq0 hq1 hxr z0 z1 z2) ?_; rintro e w5 ⟨rfl, h5⟩; have R5 := Lib.hid h5; clear R2; have R2 := R5.out.cells; clear h5))
      clear R2 W4B
      obtain ⟨t, ht⟩ : ∃ t, V ((st : Int) + (q : Int)) = t := ⟨_, rfl⟩
      have hts : t.size = sz := by rw [← ht]; exact HVS.out _
      have HT := Lib.hid ht
      rw [ht]
      clear ht
      obtain ⟨k, hk⟩ : ∃ k, min n2 (sz - r) = k := ⟨_, rfl⟩
      have hk1 : 0 < k ∧ k ≤ n2 ∧ k ≤ sz - r := by omega
      have hk2 : n2 ≤ sz - r ∨ k = sz - r := by omega
      have HK := Lib.hid hk
      clear hk
      go_wp2_with fail
      have ek : (min (n2 : Int) ((sz - r : Nat) : Int)).toNat = k := by have := HK.out; omega
      rw [ek]
      obtain ⟨u, hu⟩ : ∃ u, (t.extract r sz).extract 0 k = u := ⟨_, rfl⟩
      have UL : Hid (u.data.toList = (t.data.toList.drop r).take k) := Lib.hid (by
        rw [← hu, extract_list, extract_list, List.drop_zero, List.take_take, Nat.sub_zero, Nat.min_eq_left (by omega)])
      have hus : u.size = k := by
        rw [← hu, ByteArray.size_extract, ByteArray.size_extract]; omega
      have HUS := Lib.hid hus
      rw [hu]
      clear hu ek
      have hrl : (readL V st sz off d).length + u.size ≤ 1099511627776 := by rw [readL_len, hus]; omega
      refine (R5.out.write hq0 hq1 hxq u (by omega) hrl).mono ?_
      rintro e w6 ⟨⟨v6, rfl⟩, h6⟩
      have R6 : Hid (RR Q x c0 d0 q0 w rb sb db eb (N + 8 * (d + k)) m st ln L S ob V (readL V st sz off (d + k)) w6) := Lib.hid (by
        have q1 := readL_add V st sz off d k
        have q2 := readL_chunk (V := V) (st := st) (sz := sz) (off := o) (k := k) (by omega) (by rw [HQ.out]; exact HVS.out _) (by rw [HRM.out]; omega)
        rw [HQ.out, HT.out, HRM.out, ← UL.out] at q2
        rw [HO.out, q2] at q1
        rw [q1]
        exact h6.mono (by omega))
      have e6 : IntKind.i64.wrap ((o : Int) + (k : Int)) = (o : Int) + (k : Int) := IntWalk.i64_in _ (by omega)
      have e7 : IntKind.i64.wrap ((n2 : Int) - (k : Int)) = (n2 : Int) - (k : Int) := IntWalk.i64_in _ (by have := HN2.out; omega)
      clear h6 R5 hrl
      go_wp2_with fail
      go_roundw
      case rel =>
        refine ⟨d + k, by have := HN2.out; omega, ?_, ?_, R6.out⟩
        · rw [show ((off + (d + k) : Nat) : Int) = (o : Int) + (k : Int) by have := HO.out; omega]
        · rw [show ((n - (d + k) : Nat) : Int) = (n2 : Int) - (k : Int) by have := HN2.out; omega]
      case measure => simp [intOf]; omega
    · obtain rfl : d = n := by omega
      rw [Nat.sub_self]
      obtain ⟨x5, f5, s5, b5, -, -⟩ := HR.out
      have F5 := Lib.hid f5
      have S5 := Lib.hid s5
      have B5 := Lib.hid b5
      clear f5 s5 b5 HR c0' c1'
      go_wp2_with fail
      refine (String_any x5 q0 wr ob _ B5.out (by rw [readL_len]; omega)).mono ?_
      rintro e w6 ⟨rfl, x6, f6⟩
      have F6 := Lib.hid f6
      clear f6
      go_wp2_with fail
      refine bodyPost_ret (v := .tuple #[.string ⟨(readL V st sz off d).toArray⟩, .int .i64 0]) (by simp [results, Tryz.f15, go_sem]) rfl ?_
      exact ⟨rfl, x6, F5.out.trans (F6.out.mono (fun e he => .inr he)), S5.out.frame F6.out (fun e he hc => by rcases hc with rfl | rfl; exact hq0 (PD_PC c0 d0 _ he); exact hq1 (PD_PC c0 d0 _ he))⟩

end Go.Proofs.YtbgbomlmgkgkoaaGreat.st
