/- pool: the contracts of Read, Write, Pin, Unpin, Text, Stats. -/
import Derived.Test.YtbgbomlmgkgkoaaGreatPoC
namespace Go.Proofs.YtbgbomlmgkgkoaaGreat.arcI
open Go.RowKit Go.Proofs.YtbgbomlmgkgkoaaGreat.own Go.Proofs.YtbgbomlmgkgkoaaGreat.dv Go.Proofs.YtbgbomlmgkgkoaaGreat.po

theorem fetch_done (x : Nat → Nat) (c0 d0 sb db eb cb pm : Nat) (blk : Int → Nat) (s : Sp) (D : Dev) (N : Nat) (w : World) (no : Int) (whole : Bool) (k : Nat) (hek : ∀ args w, (callFunc k args).run Tryz.prog w = .ok (.enter k args) w) (caps : List Value) (R : World → Prop) (h : TI x c0 w sb db eb cb pm blk s N) (hd : DIs x d0 w db D N) (ok : SpOk s D)
    (hcd : c0 + 9 < d0 ∨ d0 + 2 < c0) (h0 : 0 ≤ no) (h1 : no < D.nb) (hN : N + 8 < 1099511627776) (he : (touchS s.arc no).2.2.2 = 0)
    (hdo : Doing x c0 d0 w sb db eb cb pm (fetchS s D no whole).1.1 (fetchS s D no whole).1.2 N no k caps R) :
    Calls Tryz.prog 96 #[.pointer (some ⟨sb, 0, none⟩), .int .i64 no, .bool whole, .func (.func k) #[] caps.toArray] w fun e w' => e = .returned (.int .i64 0) ∧ R w' := by
  cases hh : (touchS s.arc no).2.1 with
  | true => exact fetch_hit x c0 d0 sb db eb cb pm blk s D N w no whole k hek caps R h hd ok hcd h0 h1 hN he hh hdo
  | false => exact fetch_miss x c0 d0 sb db eb cb pm blk s D N w no whole k hek caps R h hd ok hcd h0 h1 hN he hh hdo

/-- a space and its device in memory, the cache's and the map's blocks not named -/
def SIs (x : Nat → Nat) (c0 d0 : Nat) (w : World) (sb db eb : Nat) (s : Sp) (D : Dev) (N : Nat) : Prop := (∃ cb pm blk, TI x c0 w sb db eb cb pm blk s N) ∧ DIs x d0 w db D N
def STurned (x : Nat → Nat) (c0 d0 : Nat) (w w' : World) (sb db eb : Nat) (s : Sp) (D : Dev) (N : Nat) : Prop := ∃ x', Fr x x' (PC c0 d0) w w' ∧ SIs x' c0 d0 w' sb db eb s D N
theorem SIs.frame {x x' : Nat → Nat} {C : Nat → Prop} {c0 d0 : Nat} {w w' : World} {sb db eb : Nat} {s : Sp} {D : Dev} {N : Nat} (h : SIs x c0 d0 w sb db eb s D N) (hf : Fr x x' C w w') (hC : ∀ e, PD c0 d0 e → ¬ C e) : SIs x' c0 d0 w' sb db eb s D N := by
  obtain ⟨⟨cb, pm, blk, t⟩, d⟩ := h
  exact ⟨⟨cb, pm, blk, t.frame hf (fun e he => hC e (.inl he))⟩, d.frame hf (fun e he => hC e (.inr he))⟩
theorem SIs.mono {x : Nat → Nat} {c0 d0 : Nat} {w : World} {sb db eb : Nat} {s : Sp} {D : Dev} {N N' : Nat} (h : SIs x c0 d0 w sb db eb s D N) (hN : N ≤ N') : SIs x c0 d0 w sb db eb s D N' := by
  obtain ⟨⟨cb, pm, blk, t⟩, d⟩ := h
  exact ⟨⟨cb, pm, blk, t.mono hN⟩, d.mono hN⟩
theorem SIs.below {x x' : Nat → Nat} {c0 d0 : Nat} {w w' : World} {sb db eb : Nat} {s : Sp} {D : Dev} {N : Nat} (h : SIs x c0 d0 w sb db eb s D N) (hb : Below w.heap.size w w') (hx : ∀ b, b < w.heap.size → x' b = x b) : SIs x' c0 d0 w' sb db eb s D N := by
  obtain ⟨⟨cb, pm, blk, t⟩, d⟩ := h
  exact ⟨⟨cb, pm, blk, t.below hb hx⟩, d.below hb hx⟩

theorem PC6 {c0 d0 : Nat} : PC c0 d0 (c0 + 6) := .inl ⟨by omega, by omega⟩
theorem not6 {c0 d0 : Nat} (hcd : c0 + 9 < d0 ∨ d0 + 2 < c0) : ∀ e, PD c0 d0 e → e ≠ c0 + 6 := by
  rintro e (h | h) rfl
  · exact h.2 rfl
  · have a := h.1; have b := h.2; omega

theorem Read_do (no : Int) (x : Nat → Nat) (c0 sb db eb cb pm : Nat) (blk : Int → Nat) (s : Sp) (N : Nat) (w : World) (tb : Nat) (p : Pg) (u : ByteArray) (hk : KOK no) (h : TI x c0 w sb db eb cb pm blk s N) (hp : s.pg no = some p) (ht : w.heap[tb]? = some (.cells #[.string u] 9 (0, 0))) :
    Calls Tryz.prog 97 #[.pointer (some ⟨blk no, 0, none⟩), .pointer (some ⟨tb, 0, none⟩)] w fun e w' => e = .returned (.tuple #[]) ∧ w.setCell ⟨tb, 0, none⟩ (.string p.text) = w' := by
  obtain ⟨p0, -, -, -⟩ := h.page hk hp
  have t0 : w.cell? ⟨tb, 0, none⟩ = some (.string u) := by rw [cell_of_row w _ _ _ _ _ ht]; rfl
  have tf : w.frozen? ⟨tb, 0, none⟩ = false := frozen_of_row w _ _ _ _ ht
  clear h hp ht
  go_enter Tryz.func97, Tryz.ntmps97
  go_wp2_with fail
  go_end0
  exact ⟨rfl, rfl⟩

set_option maxRecDepth 100000 in
set_option maxHeartbeats 1600000 in
theorem SRead_any (x : Nat → Nat) (c0 d0 sb db eb : Nat) (s : Sp) (D : Dev) (N : Nat) (w : World) (no : Int) (h : SIs x c0 d0 w sb db eb s D N) (ok : SpOk s D) (hcd : c0 + 9 < d0 ∨ d0 + 2 < c0) (h0 : 0 ≤ no) (h1 : no < D.nb) (hN : N + 8 < 1099511627776) (he : (touchS s.arc no).2.2.2 = 0) :
    Calls Tryz.prog 48 #[.pointer (some ⟨sb, 0, none⟩), .int .i64 no] w fun e w' => e = .returned (.tuple #[.string (cont s D no), .int .i64 0]) ∧ STurned x c0 d0 w w' sb db eb (fetchS s D no false).1.1 (fetchS s D no false).1.2 (N + 8) := by
  obtain ⟨⟨cb, pm, blk, t⟩, d⟩ := h
  have hb := ok.dev.blocks
  have hk : KOK no := WalkArith.wf_i64 (by omega)
  obtain ⟨⟨p, hp, hp2, hp3⟩, -⟩ := fetch_ok s D no false ok h0 h1 (by unfold fetchS; rw [if_pos he]; split <;> rfl)
  have hpt := (hp3 rfl).1
  have hb1 : Below w.heap.size w (w.alloc (.cells #[.string ⟨#[]⟩] 9)) := (Below.refl _ w).alloc (Nat.le_refl _) _
  have t1 := t.below hb1 (x' := paint x w.heap.size (c0 + 6)) (fun b hb => paint_old hb)
  have d1 := d.below hb1 (x' := paint x w.heap.size (c0 + 6)) (fun b hb => paint_old hb)
  have xb : paint x w.heap.size (c0 + 6) w.heap.size = c0 + 6 := paint_new (Nat.le_refl _)
  have hbx := World.alloc_heap_new w (.cells #[.string ⟨#[]⟩] 9)
  have hF : Fr x (paint x w.heap.size (c0 + 6)) (PC c0 d0) w (w.alloc (.cells #[.string ⟨#[]⟩] 9)) := Fr.of_below hb1 PC6
  have T1 := Lib.hid t1
  have D1 := Lib.hid d1
  have XB := Lib.hid xb
  have HBX := Lib.hid hbx
  have HF := Lib.hid hF
  have OK := Lib.hid ok
  have HE := Lib.hid he
  have HK := Lib.hid hk
  have HP := Lib.hid hp
  have HPT := Lib.hid hpt
  clear t d hk hp hp2 hp3 hpt hb1 t1 d1 xb hbx hF ok he
  go_enter Tryz.func48, Tryz.ntmps48
  go_wp2_with fail
  generalize (World.alloc w _) = W1 at T1 D1 HBX HF ⊢
  generalize paint x w.heap.size (c0 + 6) = x1 at T1 D1 XB HF
  refine (sready_ok x1 c0 d0 sb db eb cb pm blk s D N W1 T1.out D1.out OK.out.dead OK.out.up).mono ?_
  rintro e w2 ⟨rfl, rfl⟩
  go_wp2_with fail
  refine (fetch_done x1 c0 d0 sb db eb cb pm blk s D N W1 no false 97 (enters_of Tryz.func97 (by kernel_rfl) rfl) [.pointer (some ⟨w.heap.size, 0, none⟩)]
    (fun w' => ∃ x2, Fr x1 x2 (PC c0 d0) W1 w' ∧ SIs x2 c0 d0 w' sb db eb (fetchS s D no false).1.1 (fetchS s D no false).1.2 (N + 8) ∧ w'.heap[w.heap.size]? = some (.cells #[.string p.text] 9 (0, 0))) T1.out D1.out OK.out hcd h0 h1 hN HE.out ?_).mono ?_
  · intro x2 w2 blk2 f2 t2 d2
    have lb := lt_of_block HBX.out
    have hbx2 : w2.heap[w.heap.size]? = some (.cells #[.string ⟨#[]⟩] 9 (0, 0)) := (f2.old _ lb (by rw [XB.out]; exact fun hc => not6 hcd _ hc rfl)).trans HBX.out
    have xb2 : x2 w.heap.size = c0 + 6 := (f2.col _ lb).trans XB.out
    refine (Read_do no x2 c0 sb db eb cb pm blk2 _ (N + 8) w2 w.heap.size p _ HK.out t2 HP.out hbx2).mono ?_
    rintro e w3 ⟨rfl, rfl⟩
    have f3 : Fr x2 x2 (fun e => e = c0 + 6) w2 (w2.setCell ⟨w.heap.size, 0, none⟩ (.string p.text)) := Fr.same rfl rfl rfl (by simp) (fun b _ hC => Below.heap_setCell w2 _ _ _ (by rintro rfl; exact hC xb2))
    refine ⟨rfl, x2, (f2.mono (PD_PC c0 d0)).trans (f3.mono (fun e he => by rw [he]; exact PC6)), ⟨⟨cb, pm, blk2, t2.frame f3 (fun e he hc => he.2 hc)⟩, d2.frame f3 (fun e he => not6 hcd e (.inr he))⟩, ?_⟩
    rw [heap_setCell_same w2 _ 0 _ _ _ hbx2]; rfl
  · rintro e w3 ⟨rfl, x3, f3, s3, hb3⟩
    have k0 : w3.cell? ⟨w.heap.size, 0, none⟩ = some (.string p.text) := by rw [cell_of_row w3 _ _ _ _ _ hb3]; rfl
    have kf : w3.frozen? ⟨w.heap.size, 0, none⟩ = false := frozen_of_row w3 _ _ _ _ hb3
    have F3 := Lib.hid f3
    have S3 := Lib.hid s3
    have HB3 := Lib.hid hb3
    have xb3 : Hid (x3 w.heap.size = c0 + 6) := Lib.hid ((f3.col _ (lt_of_block HBX.out)).trans XB.out)
    clear f3 s3 hb3
    go_wp2_with fail
    have f4 : Fr x3 x3 (fun e => e = c0 + 6) w3 (w3.setCell ⟨w.heap.size, 0, none⟩ (.string p.text)) := Fr.same rfl rfl rfl (by simp) (fun b _ hC => Below.heap_setCell w3 _ _ _ (by rintro rfl; exact hC xb3.out))
    have k1 : (w3.setCell ⟨w.heap.size, 0, none⟩ (.string p.text)).cell? ⟨w.heap.size, 0, none⟩ = some (.string p.text) := World.cell?_setCell_same' _ _ _ (by rw [k0]; rfl)
    refine bodyPost_ret (v := .tuple #[.string p.text, .int .i64 0]) (by simp [results, Tryz.f48, go_sem, k1]) rfl ?_
    exact ⟨by rw [HPT.out], x3, (HF.out.trans F3.out).trans (f4.mono (fun e he => by rw [he]; exact PC6)), S3.out.frame f4 (fun e he hc => not6 hcd e he hc)⟩

end Go.Proofs.YtbgbomlmgkgkoaaGreat.arcI
