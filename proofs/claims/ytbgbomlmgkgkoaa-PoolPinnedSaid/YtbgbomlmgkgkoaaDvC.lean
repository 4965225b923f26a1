/- blockdev: the contracts of Read, counted, Write. -/
import Derived.Test.YtbgbomlmgkgkoaaDvB
namespace Go.Proofs.Ytbgbomlmgkgkoaa.dv
open Go.RowKit Go.Proofs.Ytbgbomlmgkgkoaa.own Go.Proofs.Ytbgbomlmgkgkoaa.po

def DTurned (x : Nat → Nat) (d0 : Nat) (w w' : World) (db : Nat) (D : Dev) (N : Nat) : Prop := ∃ x', Fr x x' (DC d0) w w' ∧ DIs x' d0 w' db D N
theorem DTurned.trans {x x' : Nat → Nat} {d0 : Nat} {w w' w'' : World} {db : Nat} {D : Dev} {N : Nat} (h : Fr x x' (DC d0) w w') (k : DTurned x' d0 w' w'' db D N) : DTurned x d0 w w'' db D N := by
  obtain ⟨x2, h2, h3⟩ := k; exact ⟨x2, h.trans h2, h3⟩
theorem DIs.turned {x : Nat → Nat} {d0 : Nat} {w : World} {db : Nat} {D : Dev} {N : Nat} (h : DIs x d0 w db D N) : DTurned x d0 w w db D N := ⟨x, Fr.refl _ _ _, h⟩
theorem DIs.turned_below {x : Nat → Nat} {d0 : Nat} {w w' : World} {db : Nat} {D : Dev} {N : Nat} (h : DIs x d0 w db D N) (hb : Below w.heap.size w w') : DTurned x d0 w w' db D N :=
  ⟨paint x w.heap.size (d0 + 2), Fr.of_below hb ⟨by omega, by omega⟩, h.below hb (fun b hb => paint_old hb)⟩
theorem DIs.lt {x : Nat → Nat} {d0 : Nat} {w : World} {db : Nat} {D : Dev} {N : Nat} (h : DIs x d0 w db D N) : db < w.heap.size := by
  obtain ⟨_, _, _, h0, _⟩ := h; exact lt_of_block h0

/-- a plain field of a device is set -/
theorem DIs.setAt {x : Nat → Nat} {d0 : Nat} {w : World} {db : Nat} {D : Dev} {N : Nat} (h : DIs x d0 w db D N) (o : Nat) (u : Value) (D' : Dev) (N' : Nat) (hN : N ≤ N')
    (e : ∀ sm cv, (devCells D sm cv).setIfInBounds o u = devCells D' sm cv) (hs : D'.safe = D.safe) (hc : D'.cache = D.cache) (b1 : D'.calls ≤ N') (b2 : D'.reads ≤ N') :
    Fr x x (DC d0) w (w.setCell ⟨db, o, none⟩ u) ∧ DIs x d0 (w.setCell ⟨db, o, none⟩ u) db D' N' := by
  obtain ⟨sm, cv, n, h0, hx, hsm, hm, hr, hcv, h1, h2, h3⟩ := h
  have old : ∀ b, b ≠ db → (w.setCell ⟨db, o, none⟩ u).heap[b]? = w.heap[b]? := fun b hb => Below.heap_setCell w _ _ _ hb
  refine ⟨Fr.same rfl rfl rfl (by simp) (fun b _ hC => old b (by rintro rfl; exact hC (by rw [hx]; exact ⟨Nat.le_refl _, by omega⟩))), sm, cv, n, ?_, hx, hsm, ?_, ?_, hcv, b1, b2, by rw [hc]; omega⟩
  · rw [heap_setCell_same w db o _ _ _ h0, e]
  · rw [hs]
    exact (hm.mono hN).frame (old sm (by rintro rfl; rw [hx] at hsm; omega))
  · rw [hc]
    refine ⟨hr.1, ?_⟩
    rcases hr.2 with hn | ⟨g, cap, cur, hv, hb, hg, r⟩
    · exact .inl hn
    · refine .inr ⟨g, cap, cur, hv, hb, ?_, r⟩
      rw [old g (by rintro rfl; have := hcv g (by rw [hv]; rfl); rw [hx] at this; omega)]
      exact hg

set_option maxRecDepth 100000 in
theorem Read_any (x : Nat → Nat) (d0 db : Nat) (D : Dev) (N : Nat) (w : World) (n : Int) (h : DIs x d0 w db D N) (ok : D.Ok) (hd : D.down = false) (h0 : 0 ≤ n) (h1 : n < D.nb) (hN : N + 1 < 1099511627776) :
    Calls Try.prog 46 #[.pointer (some ⟨db, 0, none⟩), .int .i64 n] w fun e w' => e = .returned (.tuple #[.string (D.now n), .int .i64 0]) ∧ DTurned x d0 w w' db { D with reads := D.reads + 1 } (N + 1) := by
  have hb := ok.blocks
  have hk : KOK n := WalkArith.wf_i64 (by omega)
  obtain ⟨_, _, _, _, _, c10, cf, b9, b10, _⟩ := dev_cells h
  have HK := Lib.hid hk
  have OK := Lib.hid ok
  have HD := Lib.hid hd
  obtain ⟨f2, h2⟩ := h.setAt 10 (.int .i64 ((D.reads + 1 : Nat) : Int)) { D with reads := D.reads + 1 } (N + 1) (by omega) (fun _ _ => rfl) rfl rfl (by show D.calls ≤ N + 1; omega) (by show D.reads + 1 ≤ N + 1; omega)
  have H := Lib.hid h
  have H2 := Lib.hid h2
  have F2 := Lib.hid f2
  have E : Hid (((D.reads : Int) + 1) = ((D.reads + 1 : Nat) : Int)) := Lib.hid (by omega)
  clear h h2 f2 ok hd hk
  go_enter Try.func46, Try.ntmps46
  go_wp2_with fail
  refine (ready_any x d0 db D N _ H.out HD.out).mono ?_
  rintro e w1 ⟨rfl, rfl⟩
  go_wp2_with fail
  refine (has_any x d0 db D N _ n H.out h0 h1).mono ?_
  rintro e w1 ⟨rfl, rfl⟩
  go_wp2_with fail
  rw [E.out]
  refine (now_any x d0 db _ (N + 1) _ n H2.out (show ({ D with reads := D.reads + 1 } : Dev).Ok from ⟨OK.out.blocks, OK.out.sectors, OK.out.safe, OK.out.cache⟩) HK.out hN).mono ?_
  rintro e w2 ⟨rfl, hb2⟩
  have B2 := Lib.hid hb2
  clear hb2
  go_wp2_with fail
  go_ret2
  exact ⟨rfl, DTurned.trans F2.out (H2.out.turned_below B2.out)⟩

set_option maxRecDepth 100000 in
theorem counted_any (x : Nat → Nat) (d0 db : Nat) (D : Dev) (N : Nat) (w : World) (h : DIs x d0 w db D N) (hN : N + 1 < 1099511627776) :
    Calls Try.prog 102 #[.pointer (some ⟨db, 0, none⟩)] w fun e w' => e = .returned (.bool false) ∧ DTurned x d0 w w' db { D with calls := D.calls + 1 } (N + 1) := by
  obtain ⟨c0, _, _, _, c9, _, cf, b9, b10, _⟩ := dev_cells h
  obtain ⟨f2, h2⟩ := h.setAt 9 (.int .i64 ((D.calls + 1 : Nat) : Int)) { D with calls := D.calls + 1 } (N + 1) (by omega) (fun _ _ => rfl) rfl rfl (by show D.calls + 1 ≤ N + 1; omega) (by show D.reads ≤ N + 1; omega)
  have H2 := Lib.hid h2
  have F2 := Lib.hid f2
  have E : Hid (((D.calls : Int) + 1) = ((D.calls + 1 : Nat) : Int)) := Lib.hid (by omega)
  clear h h2 f2
  go_enter Try.func102, Try.ntmps102
  go_wp2_with fail
  go_ret
  rw [E.out]
  exact ⟨rfl, _, F2.out, H2.out⟩

theorem Try.infoWr : (Try.prog.info? 187).map (fun i => (i.zero, i.size, i.bytes)) = some (some (.agg #[.int .i64 0, .string ⟨#[]⟩]), 2, 24) := by kernel_rfl
theorem wr_one (n : Int) (t : ByteArray) : ∀ u ∈ ([.int .i64 n, .string t] : List Value), u.oneCell' = true := by intro u hu; simp at hu; rcases hu with rfl | rfl <;> rfl
theorem cell_two_new (w : World) (n : Int) (t : ByteArray) (ty : TypeId) : ∀ j u, ([.int .i64 n, .string t] : List Value)[j]? = some u → (w.alloc (.cells #[.int .i64 n, .string t] ty)).cell? ((⟨w.heap.size, 0, none⟩ : Addr).add j) = some u := by
  intro j u hj
  have hc := World.alloc_heap_new w (.cells #[.int .i64 n, .string t] ty)
  rw [Addr.add_lit, Nat.zero_add, cell_of_row _ _ _ _ _ _ hc]
  rw [← hj]
  match j with
  | 0 => rfl
  | 1 => rfl
  | (j + 2) => rfl

theorem grownBy_setCell_at (w : World) (b o : Nat) (u : Value) : w.grownBy (w.setCell ⟨b, o, none⟩ u) (some b) :=
  ⟨rfl, rfl, rfl, by simp, fun k hk hne => Below.heap_setCell w _ _ _ (fun e => hne (by rw [e]))⟩

set_option maxRecDepth 100000 in
set_option maxHeartbeats 1000000 in
theorem Write_any (x : Nat → Nat) (d0 db : Nat) (D : Dev) (N : Nat) (w : World) (n : Int) (t : ByteArray) (h : DIs x d0 w db D N) (ok : D.Ok) (hd : D.down = false) (h0 : 0 ≤ n) (h1 : n < D.nb) (ht : t.size = D.size) (hN : N + 2 < 1099511627776) :
    Calls Try.prog 101 #[.pointer (some ⟨db, 0, none⟩), .int .i64 n, .string t] w fun e w' => e = .returned (.int .i64 0) ∧ DTurned x d0 w w' db (D.write n t) (N + 2) := by
  have hb := ok.blocks
  have hz : D.size ≤ 4096 := by have := ok.sectors; unfold Dev.size; omega
  have H := Lib.hid h
  have OK := Lib.hid ok
  have HD := Lib.hid hd
  have HT := Lib.hid ht
  obtain ⟨sm, cv, m, h00, hx, hsm, hm, hr, hcv, hc1, hc2, hc3⟩ := h
  obtain ⟨i0, hi, hz0, hz1, hz2⟩ := info_parts Try.infoWr
  have hdl := lt_of_block h00
  have hsl := hm.lt
  have c7 : w.cell? ⟨db, 7, none⟩ = some cv := by rw [cell_of_row w db _ _ _ _ h00]; rfl
  have c3 : w.frozen? ⟨db, 7, none⟩ = false := frozen_of_row w db _ _ _ h00
  have X := Lib.hid hx
  have XS := Lib.hid hsm
  have XC := Lib.hid hcv
  have HM := Lib.hid hm
  have H00 := Lib.hid h00
  have hne : cv.ownBlock ≠ some db := fun e => by have := hcv db e; omega
  have hne2 : cv.ownBlock ≠ some sm := fun e => by have := hcv sm e; omega
  have NE := Lib.hid hne
  have NE2 := Lib.hid hne2
  clear ok hd ht hx hsm hcv hm hne hne2 h00
  have E : (((t.size : Nat) : Int) == ((D.size : Nat) : Int)) = true := beq_iff_eq.2 (by rw [HT.out])
  go_enter Try.func101, Try.ntmps101
  go_wp2_with fail
  refine (ready_any x d0 db D N _ H.out HD.out).mono ?_
  rintro e w1 ⟨rfl, rfl⟩
  go_wp2_with fail
  refine (has_any x d0 db D N _ n H.out h0 h1).mono ?_
  rintro e w1 ⟨rfl, rfl⟩
  go_wp2_with fail
  refine (Size_any x d0 db D N _ H.out OK.out).mono ?_
  rintro e w1 ⟨rfl, rfl⟩
  go_wp2_with (at_builtin; refine wpList_append_at _ rfl _ _ 123 rfl 0 187 i0 _ 2 24 Try.underlying123 hi hz0 hz1 hz2 rfl (by decide) _ D.cache.length _ rfl (hr.alloc _) ⟨w.heap.size, 0, none⟩ 1 1 [.int .i64 n, .string t] rfl rfl ?c1 (wr_one _ _) ?c3 ?c4 ?c5 ?c6 ?_)
  try case c1 => exact cell_two_new _ _ _ _
  try case c3 => simp only [maxLen]; omega
  try case c4 => omega
  try case c5 => omega
  try case c6 => omega
  intro v2 w2 hown2 hg2 hwh
  obtain ⟨a2, p2, hv2s⟩ := own_shape hown2
  subst hv2s
  obtain ⟨v2, hv2e⟩ : ∃ v2 : Value, v2 = .slice a2 (D.cache.length + 1) p2 := ⟨_, rfl⟩
  have HV2 := Lib.hid hv2e
  rw [← hv2e] at hown2 hwh
  clear hv2e
  have hcb2 : w2.heap[db]? = some (.cells (devCells D sm cv) 125 (0, 0)) := (hg2.block db (by simp; omega) (fun h => NE.out h.symm)).trans ((Below.heap_alloc _ _ _ hdl).trans H00.out)
  have hsm2 : w2.heap[sm]? = w.heap[sm]? := (hg2.block sm (by simp; omega) (fun h => NE2.out h.symm)).trans (Below.heap_alloc _ _ _ hsl)
  have d2 : w2.cell? ⟨db, 7, none⟩ = some cv := by rw [cell_of_row w2 db _ _ _ _ hcb2]; rfl
  have d3 : w2.frozen? ⟨db, 7, none⟩ = false := frozen_of_row w2 db _ _ _ hcb2
  -- the world behind the store
  have K3 : Keeps w (w2.setCell ⟨db, 7, none⟩ v2) (fun b => b = db ∨ cv.ownBlock = some b) :=
    (((Keeps.refl w _).alloc _).grown hg2 (fun k hk => .inl (.inr hk))).setCell (.inl (.inl rfl)) v2
  have f3 := K3.fr (x := x) (C := DC d0) (c := d0 + 2) ⟨by omega, by omega⟩ (fun b _ hs => hs.elim (fun e => by rw [e, X.out]; exact ⟨Nat.le_refl _, by omega⟩) (fun e => by rw [XC.out b e]; exact ⟨by omega, by omega⟩))
  have h3 : DIs (paint x w.heap.size (d0 + 2)) d0 (w2.setCell ⟨db, 7, none⟩ v2) db { D with cache := D.cache ++ [(n, t)] } (N + 1) := by
    have e3 : (w2.setCell ⟨db, 7, none⟩ v2).heap[db]? = some (.cells (devCells { D with cache := D.cache ++ [(n, t)] } sm v2) 125 (0, 0)) := by
      rw [heap_setCell_same w2 db 7 _ _ _ hcb2]; rfl
    have hsne : sm ≠ db := by intro e; have := XS.out; rw [e, X.out] at this; omega
    refine ⟨sm, v2, m, e3, by rw [paint_old hdl]; exact X.out, by rw [paint_old hsl]; exact XS.out, (HM.out.mono (by omega)).frame ((Below.heap_setCell w2 _ _ _ hsne).trans hsm2), ?_, ?_, by show D.calls ≤ N + 1; omega, by show D.reads ≤ N + 1; omega, by show (D.cache ++ [(n, t)]).length ≤ N + 1; simp; omega⟩
    · have hv2db : v2.ownBlock ≠ some db := by
        rcases hwh with e | e
        · rw [e]; exact NE.out
        · rw [e]; intro h; have := Option.some.inj h; first | omega | (rw [World.size_alloc] at this; omega)
      have hk := hown2.kept (w' := w2.setCell ⟨db, 7, none⟩ v2) (row := some db) (grownBy_setCell_at w2 db 7 v2) (.inr hv2db)
      show World.ownsRow _ 0 _ 2 v2 (D.cache ++ [(n, t)]).length (wvs (D.cache ++ [(n, t)]))
      rw [wvs_snoc, List.length_append]
      exact hk
    · intro b hb
      rcases hwh with e | e
      · rw [e] at hb
        rw [paint_old (hr.lt b hb).2]; exact XC.out b hb
      · rw [e] at hb
        have := Option.some.inj hb
        rw [paint_new (by first | omega | (rw [World.size_alloc] at this; omega))]
  rw [HV2.out] at f3 h3
  have F3 := Lib.hid f3
  have H3 := Lib.hid h3
  clear hown2 hg2 hwh hcb2 hsm2 c7 c3 hr hi hz0 hz1 hz2 f3 h3 K3
  go_wp2_with fail
  refine (counted_any _ d0 db _ (N + 1) _ H3.out (by omega)).mono ?_
  rintro e w4 ⟨rfl, x4, f4, h4⟩
  have F4 := Lib.hid f4
  have H4 := Lib.hid h4
  clear f4 h4
  go_wp2_with fail
  go_ret
  exact ⟨rfl, x4, F3.out.trans F4.out, H4.out⟩

end Go.Proofs.Ytbgbomlmgkgkoaa.dv
