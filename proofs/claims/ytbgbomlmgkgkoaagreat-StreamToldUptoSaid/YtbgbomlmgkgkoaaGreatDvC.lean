/- blockdev: the contracts of Read, counted, Write. -/
import Derived.Test.YtbgbomlmgkgkoaaGreatDvB
import Derived.StillTailTactics
namespace Go.Proofs.YtbgbomlmgkgkoaaGreat.dv
open Go.RowKit Go.Proofs.YtbgbomlmgkgkoaaGreat.own Go.Proofs.YtbgbomlmgkgkoaaGreat.po

def DTurned (x : Nat → Nat) (d0 : Nat) (w w' : World) (db : Nat) (D : Dev) (N : Nat) : Prop := ∃ x', Fr x x' (DC d0) w w' ∧ DIs x' d0 w' db D N
theorem mapTurned_size {w w' : World} {b : Nat} (h : w.mapTurned w' b) : w'.heap.size = w.heap.size := by
  obtain ⟨_, _, _, _, _, rfl⟩ := h
  simp [ChangeMaps.setBlock]
theorem DTurned.trans {x x' : Nat → Nat} {d0 : Nat} {w w' w'' : World} {db : Nat} {D : Dev} {N : Nat} (h : Fr x x' (DC d0) w w') (k : DTurned x' d0 w' w'' db D N) : DTurned x d0 w w'' db D N := by
  obtain ⟨x2, h2, h3⟩ := k; exact ⟨x2, h.trans h2, h3⟩
theorem DIs.turned {x : Nat → Nat} {d0 : Nat} {w : World} {db : Nat} {D : Dev} {N : Nat} (h : DIs x d0 w db D N) : DTurned x d0 w w db D N := ⟨x, Fr.refl _ _ _, h⟩
theorem DIs.turned_below {x : Nat → Nat} {d0 : Nat} {w w' : World} {db : Nat} {D : Dev} {N : Nat} (h : DIs x d0 w db D N) (hb : Below w.heap.size w w') : DTurned x d0 w w' db D N :=
  ⟨paint x w.heap.size (d0 + 2), Fr.of_below hb ⟨by omega, by omega⟩, h.below hb (fun b hb => paint_old hb)⟩
theorem DIs.lt {x : Nat → Nat} {d0 : Nat} {w : World} {db : Nat} {D : Dev} {N : Nat} (h : DIs x d0 w db D N) : db < w.heap.size := by
  obtain ⟨_, _, _, _, h0, _⟩ := h; exact lt_of_block h0

/-- a plain field of a device is set -/
theorem DIs.setAt {x : Nat → Nat} {d0 : Nat} {w : World} {db : Nat} {D : Dev} {N : Nat} (h : DIs x d0 w db D N) (o : Nat) (u : Value) (D' : Dev) (N' : Nat) (hN : N ≤ N')
    (e : ∀ sm cv, (devCells D sm cv).setIfInBounds o u = devCells D' sm cv) (hs : D'.safe = D.safe) (hc : D'.cache = D.cache) (b1 : D'.calls ≤ N') (b2 : D'.reads ≤ N') :
    Fr x x (DC d0) w (w.setCell ⟨db, o, none⟩ u) ∧ DIs x d0 (w.setCell ⟨db, o, none⟩ u) db D' N' := by
  obtain ⟨sm, cv, n, Nm, h0, hx, hsm, hm, hr, hcv, h1, h2, h3⟩ := h
  have old : ∀ b, b ≠ db → (w.setCell ⟨db, o, none⟩ u).heap[b]? = w.heap[b]? := fun b hb => Below.heap_setCell w _ _ _ hb
  refine ⟨Fr.same rfl rfl rfl (by simp) (fun b _ hC => old b (by rintro rfl; exact hC (by rw [hx]; exact ⟨Nat.le_refl _, by omega⟩))), sm, cv, n, Nm, ?_, hx, hsm, ?_, ?_, hcv, b1, b2, by rw [hc]; omega⟩
  · rw [heap_setCell_same w db o _ _ _ h0, e]
  · rw [hs]
    exact hm.frame (old sm (by rintro rfl; rw [hx] at hsm; omega))
  · rw [hc]
    refine ⟨hr.1, ?_⟩
    rcases hr.2 with hn | ⟨g, cap, cur, hv, hb, hg, r⟩
    · exact .inl hn
    · refine .inr ⟨g, cap, cur, hv, hb, ?_, r⟩
      rw [old g (by rintro rfl; have := hcv g (by rw [hv]; rfl); rw [hx] at this; omega)]
      exact hg

set_option maxRecDepth 100000 in
theorem Read_any (x : Nat → Nat) (d0 db : Nat) (D : Dev) (N : Nat) (w : World) (n : Int) (h : DIs x d0 w db D N) (ok : D.Ok) (hd : D.down = false) (h0 : 0 ≤ n) (h1 : n < D.nb) (hN : N + 1 < 1099511627776) :
    Calls Tryz.prog 122 #[.pointer (some ⟨db, 0, none⟩), .int .i64 n] w fun e w' => e = .returned (.tuple #[.string (D.now n), .int .i64 0]) ∧ DTurned x d0 w w' db { D with reads := D.reads + 1 } (N + 1) := by
  have hb := ok.blocks
  have hk : KOK n := WalkArith.wf_i64 (by omega)
  obtain ⟨_, _, _, _, _, c10, cf, b9, b10, _⟩ := dev_cells h
  have HK := Lib.hid hk
  have OK := Lib.hid ok
  have HD := Lib.hid hd
  obtain ⟨f2, h2⟩ := h.setAt 10 (.int .i64 ((D.reads + 1 : Nat) : Int)) { D with reads := D.reads + 1 } (N + 1) (by omega) (fun _ _ => rfl) rfl rfl (by show D.calls ≤ N + 1; omega) (by show D.reads + 1 ≤ N + 1; omega)
  have H := Lib.hid h
  have H2 := Lib.hid h2
  have F2 := Lib.hid f2
  have E : Hid (((D.reads : Int) + 1) = ((D.reads + 1 : Nat) : Int)) := Lib.hid (by omega)
  clear h h2 f2 ok hd hk
  go_enter Tryz.func122, Tryz.ntmps122
  go_wp2_with fail
  refine (ready_any x d0 db D N _ H.out HD.out).mono ?_
  rintro e w1 ⟨rfl, rfl⟩
  go_wp2_with fail
  refine (has_any x d0 db D N _ n H.out h0 h1).mono ?_
  rintro e w1 ⟨rfl, rfl⟩
  go_wp2_with fail
  rw [E.out]
  refine (now_any x d0 db _ (N + 1) _ n H2.out (show ({ D with reads := D.reads + 1 } : Dev).Ok from ⟨OK.out.blocks, OK.out.sectors, OK.out.safe, OK.out.cache⟩) HK.out hN).mono ?_
  rintro e w2 ⟨rfl, hb2⟩
  have B2 := Lib.hid hb2
  clear hb2
  go_wp2_with fail
  go_ret2
  exact ⟨rfl, DTurned.trans F2.out (H2.out.turned_below B2.out)⟩

set_option maxRecDepth 100000 in
theorem counted_any (x : Nat → Nat) (d0 db : Nat) (D : Dev) (N : Nat) (w : World) (h : DIs x d0 w db D N) (hN : N + 1 < 1099511627776) :
    Calls Tryz.prog 93 #[.pointer (some ⟨db, 0, none⟩)] w fun e w' => e = .returned (.bool false) ∧ DTurned x d0 w w' db { D with calls := D.calls + 1 } (N + 1) := by
  obtain ⟨c0, _, _, _, c9, _, cf, b9, b10, _⟩ := dev_cells h
  obtain ⟨f2, h2⟩ := h.setAt 9 (.int .i64 ((D.calls + 1 : Nat) : Int)) { D with calls := D.calls + 1 } (N + 1) (by omega) (fun _ _ => rfl) rfl rfl (by show D.calls + 1 ≤ N + 1; omega) (by show D.reads ≤ N + 1; omega)
  have H2 := Lib.hid h2
  have F2 := Lib.hid f2
  have E : Hid (((D.calls : Int) + 1) = ((D.calls + 1 : Nat) : Int)) := Lib.hid (by omega)
  clear h h2 f2
  go_enter Tryz.func93, Tryz.ntmps93
  go_wp2_with fail
  go_ret
  rw [E.out]
  exact ⟨rfl, _, F2.out, H2.out⟩

theorem Tryz.infoWr : (Tryz.prog.info? 157).map (fun i => (i.zero, i.size, i.bytes)) = some (some (.agg #[.int .i64 0, .string ⟨#[]⟩]), 2, 24) := by kernel_rfl
theorem wr_one (n : Int) (t : ByteArray) : ∀ u ∈ ([.int .i64 n, .string t] : List Value), u.oneCell' = true := by intro u hu; simp at hu; rcases hu with rfl | rfl <;> rfl
theorem cell_two_new (w : World) (n : Int) (t : ByteArray) (ty : TypeId) : ∀ j u, ([.int .i64 n, .string t] : List Value)[j]? = some u → (w.alloc (.cells #[.int .i64 n, .string t] ty)).cell? ((⟨w.heap.size, 0, none⟩ : Addr).add j) = some u := by
  intro j u hj
  have hc := World.alloc_heap_new w (.cells #[.int .i64 n, .string t] ty)
  rw [Addr.add_lit, Nat.zero_add, cell_of_row _ _ _ _ _ _ hc]
  rw [← hj]
  match j with
  | 0 => rfl
  | 1 => rfl
  | (j + 2) => rfl

theorem grownBy_setCell_at (w : World) (b o : Nat) (u : Value) : w.grownBy (w.setCell ⟨b, o, none⟩ u) (some b) :=
  ⟨rfl, rfl, rfl, by simp, fun k hk hne => Below.heap_setCell w _ _ _ (fun e => hne (by rw [e]))⟩

set_option maxRecDepth 100000 in
set_option maxHeartbeats 1000000 in
theorem Write_any (x : Nat → Nat) (d0 db : Nat) (D : Dev) (N : Nat) (w : World) (n : Int) (t : ByteArray) (h : DIs x d0 w db D N) (ok : D.Ok) (hd : D.down = false) (h0 : 0 ≤ n) (h1 : n < D.nb) (ht : t.size = D.size) (hN : N + 2 < 1099511627776) :
    Calls Tryz.prog 91 #[.pointer (some ⟨db, 0, none⟩), .int .i64 n, .string t] w fun e w' => e = .returned (.int .i64 0) ∧ DTurned x d0 w w' db (D.write n t) (N + 2) := by
  have hb := ok.blocks
  have hz : D.size ≤ 4096 := by have := ok.sectors; unfold Dev.size; omega
  have H := Lib.hid h
  have OK := Lib.hid ok
  have HD := Lib.hid hd
  have HT := Lib.hid ht
  obtain ⟨sm, cv, m, Nm, h00, hx, hsm, hm, hr, hcv, hc1, hc2, hc3⟩ := h
  obtain ⟨i0, hi, hz0, hz1, hz2⟩ := info_parts Tryz.infoWr
  have hdl := lt_of_block h00
  have hsl := hm.lt
  have c7 : w.cell? ⟨db, 7, none⟩ = some cv := by rw [cell_of_row w db _ _ _ _ h00]; rfl
  have c3 : w.frozen? ⟨db, 7, none⟩ = false := frozen_of_row w db _ _ _ h00
  have X := Lib.hid hx
  have XS := Lib.hid hsm
  have XC := Lib.hid hcv
  have HM := Lib.hid hm
  have H00 := Lib.hid h00
  have hne : cv.ownBlock ≠ some db := fun e => by have := hcv db e; omega
  have hne2 : cv.ownBlock ≠ some sm := fun e => by have := hcv sm e; omega
  have NE := Lib.hid hne
  have NE2 := Lib.hid hne2
  clear ok hd ht hx hsm hcv hm hne hne2 h00
  have E : (((t.size : Nat) : Int) == ((D.size : Nat) : Int)) = true := beq_iff_eq.2 (by rw [HT.out])
  go_enter Tryz.func91, Tryz.ntmps91
  go_wp2_with fail
  refine (ready_any x d0 db D N _ H.out HD.out).mono ?_
  rintro e w1 ⟨rfl, rfl⟩
  go_wp2_with fail
  refine (has_any x d0 db D N _ n H.out h0 h1).mono ?_
  rintro e w1 ⟨rfl, rfl⟩
  go_wp2_with fail
  refine (Size_any x d0 db D N _ H.out OK.out).mono ?_
  rintro e w1 ⟨rfl, rfl⟩
  go_wp2_with (at_builtin; refine wpList_append_at _ rfl _ _ 153 rfl 0 157 i0 _ 2 24 Tryz.underlying153 hi hz0 hz1 hz2 rfl (by decide) _ D.cache.length _ rfl (hr.alloc _) ⟨w.heap.size, 0, none⟩ 1 1 [.int .i64 n, .string t] rfl rfl ?c1 (wr_one _ _) ?c3 ?c4 ?c5 ?c6 ?_)
  try case c1 => exact cell_two_new _ _ _ _
  try case c3 => simp only [maxLen]; omega
  try case c4 => omega
  try case c5 => omega
  try case c6 => omega
  intro v2 w2 hown2 hg2 hwh
  obtain ⟨a2, p2, hv2s⟩ := own_shape hown2
  subst hv2s
  obtain ⟨v2, hv2e⟩ : ∃ v2 : Value, v2 = .slice a2 (D.cache.length + 1) p2 := ⟨_, rfl⟩
  have HV2 := Lib.hid hv2e
  rw [← hv2e] at hown2 hwh
  clear hv2e
  have hcb2 : w2.heap[db]? = some (.cells (devCells D sm cv) 155 (0, 0)) := (hg2.block db (by simp; omega) (fun h => NE.out h.symm)).trans ((Below.heap_alloc _ _ _ hdl).trans H00.out)
  have hsm2 : w2.heap[sm]? = w.heap[sm]? := (hg2.block sm (by simp; omega) (fun h => NE2.out h.symm)).trans (Below.heap_alloc _ _ _ hsl)
  have d2 : w2.cell? ⟨db, 7, none⟩ = some cv := by rw [cell_of_row w2 db _ _ _ _ hcb2]; rfl
  have d3 : w2.frozen? ⟨db, 7, none⟩ = false := frozen_of_row w2 db _ _ _ hcb2
  -- the world behind the store
  have K3 : Keeps w (w2.setCell ⟨db, 7, none⟩ v2) (fun b => b = db ∨ cv.ownBlock = some b) :=
    (((Keeps.refl w _).alloc _).grown hg2 (fun k hk => .inl (.inr hk))).setCell (.inl (.inl rfl)) v2
  have f3 := K3.fr (x := x) (C := DC d0) (c := d0 + 2) ⟨by omega, by omega⟩ (fun b _ hs => hs.elim (fun e => by rw [e, X.out]; exact ⟨Nat.le_refl _, by omega⟩) (fun e => by rw [XC.out b e]; exact ⟨by omega, by omega⟩))
  have h3 : DIs (paint x w.heap.size (d0 + 2)) d0 (w2.setCell ⟨db, 7, none⟩ v2) db { D with cache := D.cache ++ [(n, t)] } (N + 1) := by
    have e3 : (w2.setCell ⟨db, 7, none⟩ v2).heap[db]? = some (.cells (devCells { D with cache := D.cache ++ [(n, t)] } sm v2) 155 (0, 0)) := by
      rw [heap_setCell_same w2 db 7 _ _ _ hcb2]; rfl
    have hsne : sm ≠ db := by intro e; have := XS.out; rw [e, X.out] at this; omega
    refine ⟨sm, v2, m, Nm, e3, by rw [paint_old hdl]; exact X.out, by rw [paint_old hsl]; exact XS.out, HM.out.frame ((Below.heap_setCell w2 _ _ _ hsne).trans hsm2), ?_, ?_, by show D.calls ≤ N + 1; omega, by show D.reads ≤ N + 1; omega, by show Nm + (D.cache ++ [(n, t)]).length ≤ N + 1; simp; omega⟩
    · have hv2db : v2.ownBlock ≠ some db := by
        rcases hwh with e | e
        · rw [e]; exact NE.out
        · rw [e]; intro h; have := Option.some.inj h; first | omega | (rw [World.size_alloc] at this; omega)
      have hk := hown2.kept (w' := w2.setCell ⟨db, 7, none⟩ v2) (row := some db) (grownBy_setCell_at w2 db 7 v2) (.inr hv2db)
      show World.ownsRow _ 0 _ 2 v2 (D.cache ++ [(n, t)]).length (wvs (D.cache ++ [(n, t)]))
      rw [wvs_snoc, List.length_append]
      exact hk
    · intro b hb
      rcases hwh with e | e
      · rw [e] at hb
        rw [paint_old (hr.lt b hb).2]; exact XC.out b hb
      · rw [e] at hb
        have := Option.some.inj hb
        rw [paint_new (by first | omega | (rw [World.size_alloc] at this; omega))]
  rw [HV2.out] at f3 h3
  have F3 := Lib.hid f3
  have H3 := Lib.hid h3
  clear hown2 hg2 hwh hcb2 hsm2 c7 c3 hr hi hz0 hz1 hz2 f3 h3 K3
  go_wp2_with fail
  refine (counted_any _ d0 db _ (N + 1) _ H3.out (by omega)).mono ?_
  rintro e w4 ⟨rfl, x4, f4, h4⟩
  have F4 := Lib.hid f4
  have H4 := Lib.hid h4
  clear f4 h4
  go_wp2_with fail
  go_ret
  exact ⟨rfl, x4, F3.out.trans F4.out, H4.out⟩

/-! ### Flush -/
/-- what is safe when k writes have been laid -/
def safeTo (D : Dev) (k : Nat) : Int → Option ByteArray := fun n => match lastW n (D.cache.take k) with | some t => some t | none => D.safe n
theorem safeTo_zero (D : Dev) : safeTo D 0 = D.safe := by funext n; simp [safeTo, lastW]
theorem safeTo_all (D : Dev) : safeTo D D.cache.length = D.flush.safe := by funext n; unfold safeTo; rw [List.take_length]; rfl
theorem safeTo_succ (D : Dev) {k : Nat} (hk : k < D.cache.length) : (fun n => (safeTo D (k + 1) n).map textV) = updO (fun n => (safeTo D k n).map textV) D.cache[k].1 (some (textV D.cache[k].2)) := by
  funext n
  have e : D.cache.take (k + 1) = D.cache.take k ++ [D.cache[k]] := List.take_succ_eq_append_getElem hk
  unfold safeTo
  rw [e, lastW_snoc]
  by_cases h : D.cache[k].1 = n
  · subst h; rw [if_pos rfl, updO_same]; rfl
  · rw [if_neg h, updO_other _ _ (fun e => h e.symm)]

def FlIs (x : Nat → Nat) (d0 : Nat) (w : World) (db sm : Nat) (cv : Value) (Nm : Nat) (D : Dev) (k : Nat) : Prop :=
  w.heap[db]? = some (.cells (devCells D sm cv) 155 (0, 0)) ∧ x db = d0 ∧ x sm = d0 + 1 ∧ (∃ n, VM w sm (Nm + k) (fun n => (safeTo D k n).map textV) n) ∧
    w.ownsRow 0 157 2 cv D.cache.length (wvs D.cache) ∧ (∀ b, cv.ownBlock = some b → x b = d0 + 2)

set_option maxRecDepth 100000 in
set_option maxHeartbeats 3200000 in
theorem Flush_any (x : Nat → Nat) (d0 db : Nat) (D : Dev) (N : Nat) (w : World) (h : DIs x d0 w db D N) (ok : D.Ok) (hd : D.down = false) (hN : N + 1 < 1099511627776) :
    Calls Tryz.prog 45 #[.pointer (some ⟨db, 0, none⟩)] w fun e w' => e = .returned (.int .i64 0) ∧ DTurned x d0 w w' db D.flush (N + 1) := by
  have H := Lib.hid h
  have OK := Lib.hid ok
  have HD := Lib.hid hd
  clear h ok hd
  go_enter Tryz.func45, Tryz.ntmps45
  go_wp2_with fail
  refine (ready_any x d0 db D N _ H.out HD.out).mono ?_
  rintro e w1 ⟨rfl, rfl⟩
  go_wp2_with fail
  refine (counted_any x d0 db D N _ H.out hN).mono ?_
  rintro e w1 ⟨rfl, x1, f1, sm, cv, n0, Nm, h0, hx, hsm, hm, hr, hcv, hb1, hb2, hb3⟩
  have hb1 : D.calls + 1 ≤ N + 1 := hb1
  have hb2 : D.reads ≤ N + 1 := hb2
  have hb3 : Nm + D.cache.length ≤ N + 1 := hb3
  have hr : w1.ownsRow 0 157 2 cv D.cache.length (wvs D.cache) := hr
  obtain ⟨aT, cT, hcvs⟩ := own_shape hr
  have c7 : w1.cell? ⟨db, 7, none⟩ = some cv := by rw [cell_of_row w1 db _ _ _ _ h0]; rfl
  obtain ⟨D1, hD1⟩ : ∃ D1 : Dev, D1 = { D with calls := D.calls + 1 } := ⟨_, rfl⟩
  have e1 : D1.cache = D.cache := by rw [hD1]
  have L0 : Hid (FlIs x1 d0 w1 db sm cv Nm D1 0) := Lib.hid ⟨by rw [hD1]; exact h0, hx, hsm, ⟨n0, by rw [safeTo_zero, hD1]; exact hm⟩, by rw [e1]; exact hr, hcv⟩
  have F1 := Lib.hid f1
  have hI := Lib.hid (WrIn.of_row hr)
  have hreach : D.cache.length ≤ 1099511627776 := by omega
  subst hcvs
  clear f1 h0 hx hsm hm hr hcv
  go_wp2_with fail
  go_loopw [25] (fun i wr => ∃ k : Nat, i = .int .i64 k ∧ k ≤ D.cache.length ∧ ∃ xr, Fr x xr (DC d0) w wr ∧ FlIs xr d0 wr db sm (.slice aT D.cache.length cT) Nm D1 k) (fun i _ => D.cache.length - (intOf i).toNat)
  case atStart => exact ⟨0, rfl, Nat.zero_le _, x1, F1.out, L0.out⟩
  case round => as_aux_lemma =>
    obtain ⟨k, rfl, hk, xr, hfr, hfl⟩ := hrel
    obtain ⟨q0, q1, q2, ⟨nv, q3⟩, q4, q5⟩ := hfl
    rw [e1] at q4
    by_cases hlt : k < D.cache.length
    · rcases WrIn.of_row q4 with ⟨hcv, h0⟩ | ⟨b, cap, hcv, hbl, hcells⟩
      · rw [h0] at hlt; exact absurd hlt (Nat.not_lt_zero _)
      · obtain ⟨rfl, -, -⟩ := Value.slice.inj hcv
        obtain ⟨k1, k2⟩ := hcells k hlt
        have hmem := OK.out.cache D.cache[k] (List.getElem_mem hlt)
        have hbn := OK.out.blocks
        have hz : D.cache[k]?.getD wr0 = D.cache[k] := by rw [List.getElem?_eq_getElem hlt]; rfl
        rw [hz] at k1 k2
        obtain ⟨⟨n, t⟩, hnt⟩ : ∃ p, D.cache[k] = p := ⟨_, rfl⟩
        rw [hnt] at k1 k2 hmem
        dsimp only at k1 k2 hmem
        have hkn : KOK n := WalkArith.wf_i64 (by omega)
        have hk2 : (k : Int) * 2 = ((k * 2 : Nat) : Int) := by omega
        have Q0 := Lib.hid q0
        have Q1 := Lib.hid q1
        have Q2 := Lib.hid q2
        have Q3 := Lib.hid q3
        have Q4 := Lib.hid q4
        have Q5 := Lib.hid q5
        have HF := Lib.hid hfr
        have HNT := Lib.hid hnt
        have HKN := Lib.hid hkn
        have sml := q3.lt
        have dbl := lt_of_block q0
        clear q0 q1 q2 q3 q4 q5 hfr hnt hkn hmem hcells hcv hz hk2
        go_wp2_with fail
        have hb0 : Below wr.heap.size wr (wr.alloc (.cells #[.int .i64 n, .string t] 157)) := (Below.refl _ wr).alloc (Nat.le_refl _) _
        have f1 : Fr xr (paint xr wr.heap.size (d0 + 2)) (DC d0) wr (wr.alloc (.cells #[.int .i64 n, .string t] 157)) := Fr.of_below hb0 ⟨by omega, by omega⟩
        have g0 : (wr.alloc (.cells #[.int .i64 n, .string t] 157)).heap[db]? = _ := (hb0.block db dbl).trans Q0.out
        have g3 := Q3.out.frame (hb0.block sm sml)
        have g4 := own_below Q4.out hb0
        have gb := World.alloc_heap_new wr (.cells #[.int .i64 n, .string t] 157)
        have g1 : paint xr wr.heap.size (d0 + 2) db = d0 := by rw [paint_old dbl]; exact Q1.out
        have g2 : paint xr wr.heap.size (d0 + 2) sm = d0 + 1 := by rw [paint_old sml]; exact Q2.out
        have g5 : ∀ b', (Value.slice (some ⟨b, 0, none⟩) D.cache.length cT).ownBlock = some b' → paint xr wr.heap.size (d0 + 2) b' = d0 + 2 := fun b' hb' => by rw [paint_old (Q4.out.lt b' hb').2]; exact Q5.out b' hb'
        have F2 := Lib.hid (HF.out.trans f1)
        have G0 := Lib.hid g0
        have G1 := Lib.hid g1
        have G2 := Lib.hid g2
        have G3 := Lib.hid g3
        have G4 := Lib.hid g4
        have G5 := Lib.hid g5
        have GB := Lib.hid gb
        clear hb0 f1 g0 g1 g2 g3 g4 g5 gb Q0 Q1 Q2 Q3 Q4 Q5 HF k1 k2
        generalize World.alloc wr _ = W3 at F2 G0 G3 G4 GB ⊢
        generalize paint xr wr.heap.size (d0 + 2) = x3 at F2 G1 G2 G5
        refine wp_region_still_tail 8 (by kernel_rfl) (by kernel_rfl) ?_
        simp only [List.take_succ_cons, List.take_zero, List.drop_succ_cons, List.drop_zero]
        have F3 : Hid (Fr x x3 (DC d0) w ({ W3 with drawn := W3.drawn + 1 } : World)) := Lib.hid ⟨F2.out.os, F2.out.tape, F2.out.output, F2.out.size, F2.out.col, F2.out.new, F2.out.old⟩
        have J0 : Hid (({ W3 with drawn := W3.drawn + 1 } : World).heap[db]? = some (.cells (devCells D1 sm (.slice (some ⟨b, 0, none⟩) D.cache.length cT)) 155 (0, 0))) := Lib.hid G0.out
        have J3 : Hid (VM ({ W3 with drawn := W3.drawn + 1 } : World) sm (Nm + k) (fun n => (safeTo D1 k n).map textV) nv) := Lib.hid G3.out
        have J4 : Hid (({ W3 with drawn := W3.drawn + 1 } : World).ownsRow 0 157 2 (.slice (some ⟨b, 0, none⟩) D.cache.length cT) D.cache.length (wvs D.cache)) := Lib.hid G4.out
        have JB : Hid (({ W3 with drawn := W3.drawn + 1 } : World).heap[wr.heap.size]? = some (.cells #[.int .i64 n, .string t] 157 (0, 0))) := Lib.hid GB.out
        clear F2 G0 G3 G4 GB
        generalize ({ W3 with drawn := W3.drawn + 1 } : World) = W4 at F3 J0 J3 J4 JB ⊢
        have k6 : W4.cell? ⟨db, 6, none⟩ = some (.map (some sm)) := by rw [cell_of_row W4 _ _ _ _ _ J0.out]; rfl
        have m0 : W4.cell? ⟨wr.heap.size, 0, none⟩ = some (.int .i64 n) := by rw [cell_of_row W4 _ _ _ _ _ JB.out]; rfl
        have m1 : W4.cell? ⟨wr.heap.size, 1, none⟩ = some (.string t) := by rw [cell_of_row W4 _ _ _ _ _ JB.out]; rfl
        obtain ⟨w5, hrun, hm5, ht5⟩ := J3.out.store HKN.out (t := 152) (e := 9) Tryz.underlying152 (textV t) (by simp only [maxLen]; omega)
        have hrun1 : (Instr.mapUpdate 152 (.map (some sm)) (.int .i64 n) (.string t)).run Tryz.prog W4 = .ok () w5 := hrun
        have hg5 := ht5.grown
        have f5 : Fr x3 x3 (DC d0) W4 w5 := Fr.same hg5.os hg5.tape hg5.output (mapTurned_size ht5) (fun b' hb' hC => hg5.block b' hb' (fun e => hC (by rw [Option.some.inj e, G2.out]; exact ⟨by omega, by omega⟩)))
        have smne : db ≠ sm := fun e => by have a := G1.out; rw [e, G2.out] at a; omega
        have bne : b ≠ sm := fun e => by have a := G5.out b rfl; rw [e, G2.out] at a; omega
        have R5 : Hid (FlIs x3 d0 w5 db sm (.slice (some ⟨b, 0, none⟩) D.cache.length cT) Nm D1 (k + 1)) := Lib.hid (by
          have hlt1 : k < D1.cache.length := by rw [e1]; exact hlt
          have en : D1.cache[k] = (n, t) := by
            have : D1.cache[k] = D.cache[k] := by simp only [e1]
            rw [this]; exact HNT.out
          refine ⟨(hg5.block db (lt_of_block J0.out) (fun e => smne (Option.some.inj e))).trans J0.out, G1.out, G2.out, ⟨_, by rw [safeTo_succ D1 hlt1, en]; exact hm5⟩, ?_, G5.out⟩
          rw [e1]
          exact J4.out.kept hg5 (.inr (fun e => bne (by have := Option.some.inj e; exact this))))
        have F5 := Lib.hid (F3.out.trans f5)
        clear F3 J0 J3 J4 JB hrun hm5 ht5 hg5 f5 smne bne
        repeat still_step
        refine wpStill_nil ?_
        go_wp2_with fail
        go_roundw
        case rel => exact ⟨k + 1, by go_num, by omega, x3, F5.out, R5.out⟩
        case measure => simp [intOf]; omega
    · obtain rfl : k = D.cache.length := by omega
      have tf : ∀ j, wr.frozen? ⟨db, j, none⟩ = false := fun j => frozen_of_row wr _ j _ _ q0
      have c7 : wr.cell? ⟨db, 7, none⟩ = some (.slice aT D.cache.length cT) := by rw [cell_of_row wr _ _ _ _ _ q0]; rfl
      have f3 : Fr xr xr (DC d0) wr (wr.setCell ⟨db, 7, none⟩ (.slice none 0 0)) := Fr.same rfl rfl rfl (by simp) (fun b _ hC => Below.heap_setCell wr _ _ _ (by rintro rfl; exact hC (by rw [q1]; exact ⟨by omega, by omega⟩)))
      have smne : sm ≠ db := fun e => by rw [e, q1] at q2; omega
      have R : Hid (DIs xr d0 (wr.setCell ⟨db, 7, none⟩ (.slice none 0 0)) db D.flush (N + 1)) := Lib.hid (by
        refine ⟨sm, .slice none 0 0, nv, Nm + D.cache.length, ?_, q1, q2, ?_, World.ownsRow_nil _ _ _ _, fun b hb => by simp [Value.ownBlock] at hb, hb1, hb2, ?_⟩
        · rw [heap_setCell_same wr db 7 _ _ _ q0, hD1]; rfl
        · have e3 : (fun n => (safeTo D1 D.cache.length n).map textV) = fun n => (D.flush.safe n).map textV := by
            have := safeTo_all D1
            rw [e1] at this
            rw [this, hD1]; rfl
          rw [e3] at q3
          exact q3.frame (Below.heap_setCell wr _ _ _ smne)
        · show Nm + D.cache.length + 0 ≤ N + 1
          omega)
      have F := Lib.hid (hfr.trans f3)
      clear q0 q1 q2 q3 q4 q5 hfr f3 smne
      go_wp2_with fail
      go_ret
      exact ⟨rfl, xr, F.out, R.out⟩

end Go.Proofs.YtbgbomlmgkgkoaaGreat.dv
