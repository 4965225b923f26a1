/- blockdev: Pull, Restart, Unflushed, Image. -/
import Derived.Test.YtbgbomlmgkgkoaaDvE
namespace Go.Proofs.Ytbgbomlmgkgkoaa.dv
open Go.RowKit Go.Proofs.Ytbgbomlmgkgkoaa.own Go.Proofs.Ytbgbomlmgkgkoaa.po

set_option maxRecDepth 100000 in
theorem Pull_any (x : Nat → Nat) (d0 db : Nat) (D : Dev) (N : Nat) (w : World) (kv : Value) (tn mk : Int) (h : DIs x d0 w db D N) (ok : D.Ok) (hd : D.down = false) (hk : KeepIs d0 x w kv) (hN : N + N < 1099511627776) :
    Calls Try.prog 20 #[.pointer (some ⟨db, 0, none⟩), .agg #[kv, .int .i64 tn, .int .u8 mk]] w fun e w' => e = .returned (.int .i64 0) ∧ ∃ D', Fell D D' ∧ DTurned x d0 w w' db D' N := by
  have hb0 : Below w.heap.size w (w.alloc (.cells #[kv, .int .i64 tn, .int .u8 mk] 54)) := (Below.refl _ w).alloc (Nat.le_refl _) _
  have gb := World.alloc_heap_new w (.cells #[kv, .int .i64 tn, .int .u8 mk] 54)
  have F0 : Hid (Fr x (paint x w.heap.size (d0 + 2)) (DC d0) w (w.alloc (.cells #[kv, .int .i64 tn, .int .u8 mk] 54))) := Lib.hid (Fr.of_below hb0 ⟨by omega, by omega⟩)
  have D0 := Lib.hid (h.below hb0 (x' := paint x w.heap.size (d0 + 2)) (fun b hb => paint_old hb))
  have K0 : Hid (KeepIs d0 (paint x w.heap.size (d0 + 2)) (w.alloc (.cells #[kv, .int .i64 tn, .int .u8 mk] 54)) kv) := Lib.hid (hk.below (fun b hb _ => hb0.block b hb) hb0.size (fun b hb => paint_old hb))
  have HD := Lib.hid hd
  have OK := Lib.hid ok
  have GB := Lib.hid gb
  clear h ok hd hk hb0 gb
  go_enter Try.func20, Try.ntmps20
  go_wp2_with fail
  generalize World.alloc w _ = W0 at F0 D0 K0 GB ⊢
  generalize paint x w.heap.size (d0 + 2) = x0 at F0 D0 K0
  refine (ready_any x0 d0 db D N _ D0.out HD.out).mono ?_
  rintro e w1 ⟨rfl, rfl⟩
  have k0 : W0.cell? ⟨w.heap.size, 0, none⟩ = some kv := by rw [cell_of_row _ _ _ _ _ _ GB.out]; rfl
  have k1 : W0.cell? ⟨w.heap.size, 1, none⟩ = some (.int .i64 tn) := by rw [cell_of_row _ _ _ _ _ _ GB.out]; rfl
  have k2 : W0.cell? ⟨w.heap.size, 2, none⟩ = some (.int .u8 mk) := by rw [cell_of_row _ _ _ _ _ _ GB.out]; rfl
  go_wp2_with fail
  refine (fall_any x0 d0 db D N W0 kv tn mk D0.out OK.out K0.out hN).mono ?_
  rintro e w2 ⟨rfl, D', hf, ht⟩
  have HF := Lib.hid hf
  have HT := Lib.hid (DTurned.trans F0.out ht)
  clear hf ht
  go_wp2_with fail
  go_ret
  exact ⟨rfl, D', HF.out, HT.out⟩

theorem Restart_any (x : Nat → Nat) (d0 db : Nat) (D : Dev) (N : Nat) (w : World) (h : DIs x d0 w db D N) (hd : D.down = true) :
    Calls Try.prog 21 #[.pointer (some ⟨db, 0, none⟩)] w fun e w' => e = .returned (.int .i64 0) ∧ DTurned x d0 w w' db { D with down := false } N := by
  obtain ⟨_, _, _, c8, _, _, cf, b1, b2, _⟩ := dev_cells h
  rw [hd] at c8
  have f8 := cf 8
  obtain ⟨f2, h2⟩ := h.setAt 8 (.bool false) { D with down := false } N (Nat.le_refl _) (fun _ _ => rfl) rfl rfl b1 b2
  have F2 := Lib.hid f2
  have H2 := Lib.hid h2
  clear h hd f2 h2 cf
  go_enter Try.func21, Try.ntmps21
  go_wp2_with fail
  go_ret
  exact ⟨rfl, x, F2.out, H2.out⟩

theorem Unflushed_any (x : Nat → Nat) (d0 db : Nat) (D : Dev) (N : Nat) (w : World) (h : DIs x d0 w db D N) :
    Calls Try.prog 19 #[.pointer (some ⟨db, 0, none⟩)] w fun e w' => e = .returned (.int .i64 (D.cache.length : Nat)) ∧ w = w' := by
  obtain ⟨sm, cv, n, Nm, h0, _, _, _, hr, _⟩ := h
  obtain ⟨aT, cT, rfl⟩ := own_shape hr
  have c7 : w.cell? ⟨db, 7, none⟩ = some (.slice aT D.cache.length cT) := by rw [cell_of_row _ _ _ _ _ _ h0]; rfl
  clear h0 hr
  go_enter Try.func19, Try.ntmps19
  go_wp2_with fail
  go_ret
  exact ⟨rfl, rfl⟩

/-! ### Image -/
def imgV (D : Dev) (n : Nat) : List Value := (List.range n).map fun (k : Nat) => Value.string (D.now (k : Int))
theorem imgV_len (D : Dev) (n : Nat) : (imgV D n).length = n := by simp [imgV]
theorem imgV_snoc (D : Dev) (n : Nat) : imgV D n ++ [.string (D.now (n : Int))] = imgV D (n + 1) := by simp [imgV, List.range_succ]
theorem imgV_get (D : Dev) (n k : Nat) (hk : k < n) : (imgV D n)[k]? = some (.string (D.now (k : Int))) := by simp [imgV, hk]
theorem Try.infoStr : (Try.prog.info? 9).map (fun i => (i.zero, i.size, i.bytes)) = some (some (.string ⟨#[]⟩), 1, 16) := by kernel_rfl
theorem cell_str_new (w : World) (t : ByteArray) (ty : TypeId) : ∀ j u, ([.string t] : List Value)[j]? = some u → (w.alloc (.cells #[.string t] ty)).cell? ((⟨w.heap.size, 0, none⟩ : Addr).add j) = some u := by
  intro j u hj
  have hc := World.alloc_heap_new w (.cells #[.string t] ty)
  rw [Addr.add_lit, Nat.zero_add, cell_of_row _ _ _ _ _ _ hc]
  rw [← hj]
  match j with
  | 0 => rfl
  | (j + 1) => rfl
theorem str_one (t : ByteArray) : ∀ u ∈ ([.string t] : List Value), u.oneCell' = true := by intro u hu; simp at hu; subst hu; rfl

set_option maxRecDepth 100000 in
set_option maxHeartbeats 1600000 in
theorem Image_any (x : Nat → Nat) (d0 db : Nat) (D : Dev) (N : Nat) (w : World) (h : DIs x d0 w db D N) (ok : D.Ok) (hN : N < 1099511627776) :
    Calls Try.prog 22 #[.pointer (some ⟨db, 0, none⟩)] w fun e w' => ∃ v, e = .returned v ∧ w'.ownsRow w.heap.size 9 1 v D.nb (imgV D D.nb) ∧ Below w.heap.size w w' := by
  obtain ⟨_, c4, _⟩ := dev_cells h
  have hnb := ok.blocks
  obtain ⟨i0, hi, hz0, hz1, hz2⟩ := info_parts Try.infoStr
  obtain ⟨W1, hrun, hown, hg⟩ := run_make_own (P := Try.prog) w w.heap.size 52 9 i0 _ 1 (by kernel_rfl) hi hz0 hz1 .i64 .i64 D.nb (by rw [hz2]; omega) (by simp only [maxLen]; omega) (Nat.le_refl _)
  have H := Lib.hid h
  have OK := Lib.hid ok
  have B1 := Lib.hid (show Below w.heap.size w W1 from ⟨hg.os, hg.tape, hg.output, hg.size, fun k hk => hg.block k hk (by simp)⟩)
  have OWN := Lib.hid hown
  have c4' : W1.cell? ⟨db, 4, none⟩ = some (.int .i64 D.nb) := (B1.out.cell (p := ⟨db, 4, none⟩) h.lt).trans c4
  clear h ok hown hg
  go_enter Try.func22, Try.ntmps22
  go_wp2_with fail
  go_loopw [3, 18] (fun v iv wr => ∃ k : Nat, iv = .int .i64 k ∧ k ≤ D.nb ∧ wr.ownsRow w.heap.size 9 1 v k (imgV D k) ∧ Below w.heap.size w wr) (fun _ iv _ => D.nb - (intOf iv).toNat)
  case atStart => exact ⟨0, rfl, Nat.zero_le _, OWN.out, B1.out⟩
  case round =>
    obtain ⟨k, rfl, hk, hown, hb⟩ := hrel
    obtain ⟨a2, p2, rfl⟩ := own_shape hown
    have OW := Lib.hid hown
    have BW := Lib.hid hb
    clear hown hb
    by_cases hlt : k < D.nb
    · have hkk : KOK (k : Int) := WalkArith.wf_i64 (by omega)
      go_wp2_with fail
      refine (now_any _ d0 db D N wr k (H.out.below BW.out (x' := x) (fun _ _ => rfl)) OK.out hkk hN).mono ?_
      rintro e w2 ⟨rfl, hb2⟩
      have own2 := own_below OW.out hb2
      have BW2 := Lib.hid (BW.out.trans (hb2.mono BW.out.size))
      have hz2' := Lib.hid (Nat.le_trans BW.out.size hb2.size)
      clear hb2 hkk
      obtain ⟨tx, htx⟩ : ∃ tx, D.now (k : Int) = tx := ⟨_, rfl⟩
      rw [htx]
      have HTX := Lib.hid htx
      clear htx
      go_wp2_with (at_builtin; refine wpList_append_own _ rfl _ _ 52 rfl w.heap.size 9 i0 (.string ⟨#[]⟩) 1 16 Try.underlying52 hi hz0 hz1 hz2 rfl (by decide) _ k (imgV D k) rfl (own2.alloc _) ⟨w2.heap.size, 0, none⟩ 1 1 [.string tx] rfl rfl ?c1 (str_one _) ?c3 ?c4 ?c5 ?_)
      case c1 => exact cell_str_new _ _ _
      case c3 => simp only [maxLen]; omega
      case c4 => omega
      case c5 => have := hz2'.out; simp; omega
      intro v3 w3 own3 hg3 _
      have B3 := Lib.hid ((BW2.out.alloc hz2'.out _).grown hg3 (by have := hz2'.out; simp; omega) (fun k hk => (own2.lt k hk).1))
      rw [← HTX.out, imgV_snoc] at own3
      have OW3 := Lib.hid own3
      clear own2 own3 hg3
      go_wp2_with fail
      go_roundw
      case rel => exact ⟨k + 1, by go_num, by omega, OW3.out, B3.out⟩
      case measure => simp [intOf]; omega
    · obtain rfl : k = D.nb := by omega
      go_wp2_with fail
      go_ret
      exact ⟨_, rfl, OW.out, BW.out⟩

end Go.Proofs.Ytbgbomlmgkgkoaa.dv
