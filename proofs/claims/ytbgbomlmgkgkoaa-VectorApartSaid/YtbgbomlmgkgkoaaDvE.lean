/- blockdev: a device goes down: fall, Pull. What stands then is, sector by sector, what was safe or what was written since. -/
import Derived.Test.YtbgbomlmgkgkoaaDvD
import Derived.BigQuiet
import Derived.Deep.CutRange
import Derived.Deep.CutBlock
import Derived.Test.YtbgbomlmgkgkoaaShelf
namespace Go.Proofs.Ytbgbomlmgkgkoaa.dv
open Go.RowKit Go.Proofs.Ytbgbomlmgkgkoaa.own Go.Proofs.Ytbgbomlmgkgkoaa.po

/-! ### the plain law -/
/-- how far a fall has come: what is safe -/
structure FaP (D : Dev) (f : Int → Option ByteArray) : Prop where
  size : ∀ k t, f k = some t → t.size = D.size
  sec : ∀ n k, k < D.ns → sect ((f n).getD (zerosB D.size)) k = sect (D.kept n) k ∨ ∃ t, (n, t) ∈ D.cache ∧ sect ((f n).getD (zerosB D.size)) k = sect t k
theorem FaP.start {D : Dev} (ok : D.Ok) : FaP D D.safe := ⟨ok.safe, fun _ _ _ => .inl rfl⟩
theorem FaP.set {D : Dev} {f : Int → Option ByteArray} (h : FaP D f) {n : Int} {t u : ByteArray} (hm : (n, t) ∈ D.cache) (hu : u.size = D.size) (hs : ∀ k, k < D.ns → sect u k = sect ((f n).getD (zerosB D.size)) k ∨ sect u k = sect t k) : FaP D (updP f n (some u)) := by
  refine ⟨fun k v hk => ?_, fun m k hk => ?_⟩
  · by_cases hkn : k = n
    · subst hkn; rw [updP_same] at hk; rw [← Option.some.inj hk]; exact hu
    · rw [updP_other _ _ hkn] at hk; exact h.size k v hk
  · by_cases hmn : m = n
    · subst hmn
      rw [updP_same]
      show sect u k = _ ∨ ∃ t, _ ∧ sect u k = _
      rcases hs k hk with e | e
      · rw [e]; exact h.sec m k hk
      · exact .inr ⟨t, hm, e⟩
    · rw [updP_other _ _ hmn]; exact h.sec m k hk
/-- what a fall leaves of a device -/
structure Fell (D D' : Dev) : Prop where
  nb : D'.nb = D.nb
  ns : D'.ns = D.ns
  cache : D'.cache = []
  down : D'.down = true
  ok : D'.Ok
  sect : ∀ n k, k < D.ns → sect (D'.kept n) k = sect (D.kept n) k ∨ ∃ t, (n, t) ∈ D.cache ∧ sect (D'.kept n) k = sect t k
theorem FaP.fell {D : Dev} {f : Int → Option ByteArray} (ok : D.Ok) (h : FaP D f) : Fell D { D with safe := f, cache := [], down := true } :=
  ⟨rfl, rfl, rfl, rfl, ⟨ok.blocks, ok.sectors, h.size, fun p hp => by cases hp⟩, h.sec⟩

/-! ### a list of places -/
def KeepIs (d0 : Nat) (x : Nat → Nat) (W : World) (kv : Value) : Prop :=
  (∃ a c, kv = .slice a 0 c) ∨ ∃ b n c zs, kv = .slice (some ⟨b, 0, none⟩) n c ∧ n = List.length zs ∧ n ≤ 9223372036854775807 ∧ b < W.heap.size ∧ x b ≠ d0 + 1 ∧ ∀ j, j < zs.length → W.cell? ⟨b, j, none⟩ = some (.int .i64 (zs.getD j 0))
theorem KeepIs.below {d0 : Nat} {x x' : Nat → Nat} {W W' : World} {kv : Value} (h : KeepIs d0 x W kv) (hb : ∀ b, b < W.heap.size → x b ≠ d0 + 1 → W'.heap[b]? = W.heap[b]?) (hz : W.heap.size ≤ W'.heap.size) (hx : ∀ b, b < W.heap.size → x' b = x b) : KeepIs d0 x' W' kv := by
  rcases h with h | ⟨b, n, c, zs, e, h1, h2, h3, h4, h5⟩
  · exact .inl h
  · exact .inr ⟨b, n, c, zs, e, h1, h2, by omega, by rw [hx b h3]; exact h4, fun j hj => (World.cell?_of_block (w := W) (w' := W') (hb b h3 h4)).trans (h5 j hj)⟩
theorem contains_any {d0 : Nat} {x : Nat → Nat} {W : World} {kv : Value} (h : KeepIs d0 x W kv) (i : Int) : Calls Try.prog 104 #[kv, .int .i64 i] W fun e w' => (∃ r, e = .returned (.bool r)) ∧ W = w' := by
  rcases h with ⟨a, c, rfl⟩ | ⟨b, n, c, zs, rfl, h1, h2, h3, h4, h5⟩
  · exact (Try.slices_Contains_int_empty a c i W).mono (by rintro e w' ⟨rfl, rfl⟩; exact ⟨⟨_, rfl⟩, rfl⟩)
  · exact (Try.slices_Contains_int b 0 n c zs i W (by omega) h2 (fun j hj => by rw [Nat.zero_add]; exact h5 j hj)).mono (by rintro e w' ⟨rfl, rfl⟩; exact ⟨⟨_, rfl⟩, rfl⟩)

/-! ### on the way -/
structure FA (x : Nat → Nat) (d0 db sm : Nat) (cv : Value) (Nm : Nat) (D : Dev) (cb : Nat) (kv : Value) (tn mk : Int) (f : Int → Option ByteArray) (k : Nat) (w : World) : Prop where
  h0 : w.heap[db]? = some (.cells (devCells D sm cv) 125 (0, 0))
  hx : x db = d0
  hs : x sm = d0 + 1
  vm : ∃ n, VM w sm (Nm + k) (fun n => (f n).map textV) n
  row : w.ownsRow 0 187 2 cv D.cache.length (wvs D.cache)
  hc : ∀ b, cv.ownBlock = some b → x b = d0 + 2
  box : w.heap[cb]? = some (.cells #[kv, .int .i64 tn, .int .u8 mk] 54 (0, 0))
  xb : x cb = d0 + 2
  keep : KeepIs d0 x w kv
  fp : FaP D f
theorem FA.below {x x' : Nat → Nat} {d0 db sm : Nat} {cv : Value} {Nm : Nat} {D : Dev} {cb : Nat} {kv : Value} {tn mk : Int} {f : Int → Option ByteArray} {k : Nat} {w w' : World} (h : FA x d0 db sm cv Nm D cb kv tn mk f k w) (hb : Below w.heap.size w w') (hx : ∀ b, b < w.heap.size → x' b = x b) : FA x' d0 db sm cv Nm D cb kv tn mk f k w' := by
  obtain ⟨n, hvm⟩ := h.vm
  exact ⟨(hb.block db (lt_of_block h.h0)).trans h.h0, by rw [hx _ (lt_of_block h.h0)]; exact h.hx, by rw [hx _ hvm.lt]; exact h.hs, ⟨n, hvm.frame (hb.block sm hvm.lt)⟩, own_below h.row hb, fun b hb' => by rw [hx _ (h.row.lt b hb').2]; exact h.hc b hb', (hb.block cb (lt_of_block h.box)).trans h.box, by rw [hx _ (lt_of_block h.box)]; exact h.xb, h.keep.below (fun b hlt _ => hb.block b hlt) hb.size hx, h.fp⟩
theorem FA.store {x : Nat → Nat} {d0 db sm : Nat} {cv : Value} {Nm : Nat} {D : Dev} {cb : Nat} {kv : Value} {tn mk : Int} {f : Int → Option ByteArray} {k : Nat} {w : World} (h : FA x d0 db sm cv Nm D cb kv tn mk f k w) {n : Int} (hn : KOK n) {u : ByteArray} (hN : Nm + k + 1 < maxLen) (hf : FaP D (updP f n (some u))) :
    ∃ w', (Instr.mapUpdate 122 (.map (some sm)) (.int .i64 n) (.string u)).run Try.prog w = .ok () w' ∧ Fr x x (DC d0) w w' ∧ FA x d0 db sm cv Nm D cb kv tn mk (updP f n (some u)) (k + 1) w' := by
  obtain ⟨m, hvm⟩ := h.vm
  obtain ⟨w5, hrun, hm5, ht5⟩ := hvm.store hn (t := 122) (e := 9) Try.underlying122 (textV u) (by omega)
  have hg5 := ht5.grown
  have hz := mapTurned_size ht5
  have old : ∀ b, b < w.heap.size → b ≠ sm → w5.heap[b]? = w.heap[b]? := fun b hb hne => hg5.block b hb (fun e => hne (Option.some.inj e))
  have e1 : (fun j => (updP f n (some u) j).map textV) = updO (fun j => (f j).map textV) n (some (textV u)) := by
    funext j
    by_cases hj : j = n
    · subst hj; rw [updP_same, updO_same]; rfl
    · rw [updP_other _ _ hj, updO_other _ _ hj]
  refine ⟨w5, hrun, Fr.same hg5.os hg5.tape hg5.output hz (fun b hb hC => old b hb (fun e => hC (by rw [e, h.hs]; exact ⟨by omega, by omega⟩))), ?_, h.hx, h.hs, ⟨_, by rw [e1]; exact hm5⟩, ?_, h.hc, ?_, h.xb, h.keep.below (fun b hb hx => old b hb (fun e => hx (by rw [e]; exact h.hs))) (by omega) (fun _ _ => rfl), hf⟩
  · rw [old db (lt_of_block h.h0) (fun e => by have a := h.hx; rw [e, h.hs] at a; omega)]; exact h.h0
  · exact h.row.kept hg5 (.inr (fun e => by have a := h.hc sm e; rw [h.hs] at a; omega))
  · rw [old cb (lt_of_block h.box) (fun e => by have a := h.xb; rw [e, h.hs] at a; omega)]; exact h.box
theorem FA.next {x : Nat → Nat} {d0 db sm : Nat} {cv : Value} {Nm : Nat} {D : Dev} {cb : Nat} {kv : Value} {tn mk : Int} {f : Int → Option ByteArray} {k : Nat} {w : World} (h : FA x d0 db sm cv Nm D cb kv tn mk f k w) : FA x d0 db sm cv Nm D cb kv tn mk f (k + 1) w := by
  obtain ⟨n, hvm⟩ := h.vm
  exact ⟨h.h0, h.hx, h.hs, ⟨n, hvm.mono (by omega)⟩, h.row, h.hc, h.box, h.xb, h.keep, h.fp⟩
theorem FA.dis {x : Nat → Nat} {d0 db sm : Nat} {cv : Value} {Nm : Nat} {D : Dev} {cb : Nat} {kv : Value} {tn mk : Int} {f : Int → Option ByteArray} {k N : Nat} {w : World} (h : FA x d0 db sm cv Nm D cb kv tn mk f k w) (h1 : D.calls ≤ N) (h2 : D.reads ≤ N) (h3 : Nm + D.cache.length ≤ N) : DIs x d0 w db { D with safe := f } (N + k) := by
  obtain ⟨n, hvm⟩ := h.vm
  exact ⟨sm, cv, n, Nm + k, h.h0, h.hx, h.hs, hvm, h.row, h.hc, Nat.le_trans h1 (Nat.le_add_right _ _), Nat.le_trans h2 (Nat.le_add_right _ _), by show Nm + k + D.cache.length ≤ N + k; omega⟩

set_option maxRecDepth 100000 in
set_option maxHeartbeats 6400000 in
theorem fall_any (x : Nat → Nat) (d0 db : Nat) (D : Dev) (N : Nat) (w : World) (kv : Value) (tn mk : Int) (h : DIs x d0 w db D N) (ok : D.Ok) (hk : KeepIs d0 x w kv) (hN : N + N < 1099511627776) :
    Calls Try.prog 61 #[.pointer (some ⟨db, 0, none⟩), .agg #[kv, .int .i64 tn, .int .u8 mk]] w fun e w' => e = .returned (.tuple #[]) ∧ ∃ D', Fell D D' ∧ DTurned x d0 w w' db D' N := by
  obtain ⟨sm, cv, n0, Nm, h0, hx, hsm, hm, hr, hcv, hb1, hb2, hb3⟩ := h
  have hb0 : Below w.heap.size w (w.alloc (.cells #[kv, .int .i64 tn, .int .u8 mk] 54)) := (Below.refl _ w).alloc (Nat.le_refl _) _
  have F0 : Hid (Fr x (paint x w.heap.size (d0 + 2)) (DC d0) w (w.alloc (.cells #[kv, .int .i64 tn, .int .u8 mk] 54))) := Lib.hid (Fr.of_below hb0 ⟨by omega, by omega⟩)
  have L0 : Hid (FA (paint x w.heap.size (d0 + 2)) d0 db sm cv Nm D w.heap.size kv tn mk D.safe 0 (w.alloc (.cells #[kv, .int .i64 tn, .int .u8 mk] 54))) := Lib.hid (by
    have dbl := lt_of_block h0
    exact ⟨(hb0.block db dbl).trans h0, by rw [paint_old dbl]; exact hx, by rw [paint_old hm.lt]; exact hsm, ⟨n0, hm.frame (hb0.block sm hm.lt)⟩, own_below hr hb0, fun b hb => by rw [paint_old (hr.lt b hb).2]; exact hcv b hb, World.alloc_heap_new w _, paint_new (Nat.le_refl _), hk.below (fun b hb _ => hb0.block b hb) hb0.size (fun b hb => paint_old hb), FaP.start ok⟩)
  have OK := Lib.hid ok
  obtain ⟨aT, cT, hcvs⟩ := own_shape hr
  have hns := ok.sectors
  have hreach : D.cache.length ≤ 1099511627776 := by omega
  subst hcvs
  clear h0 hx hsm hm hr hcv ok hb0 hk
  go_enter Try.func61, Try.ntmps61
  have c7 : (w.alloc (.cells #[kv, .int .i64 tn, .int .u8 mk] 54)).cell? ⟨db, 7, none⟩ = some (.slice aT D.cache.length cT) := by rw [cell_of_row _ _ _ _ _ _ L0.out.h0]; rfl
  go_wp2_with fail
  generalize World.alloc w _ = W0 at F0 L0 ⊢
  generalize paint x w.heap.size (d0 + 2) = x0 at F0 L0
  generalize hcb : w.heap.size = cb at L0 ⊢
  clear c7
  go_loopw [13] (fun i wr => ∃ k : Nat, i = .int .i64 k ∧ k ≤ D.cache.length ∧ ∃ xr f, Fr x xr (DC d0) w wr ∧ FA xr d0 db sm (.slice aT D.cache.length cT) Nm D cb kv tn mk f k wr) (fun i _ => D.cache.length - (intOf i).toNat)
  case atStart => exact ⟨0, rfl, Nat.zero_le _, x0, _, F0.out, L0.out⟩
  case round =>
    obtain ⟨k, rfl, hk, xr, f, hfr, hfa⟩ := hrel
    by_cases hlt : k < D.cache.length
    · rcases WrIn.of_row hfa.row with ⟨hcv, h0⟩ | ⟨b, cap, hcv, hbl, hcells⟩
      · rw [h0] at hlt; exact absurd hlt (Nat.not_lt_zero _)
      · obtain ⟨rfl, -, -⟩ := Value.slice.inj hcv
        obtain ⟨k1, k2⟩ := hcells k hlt
        have hmem := OK.out.cache D.cache[k] (List.getElem_mem hlt)
        have hin := List.getElem_mem hlt
        have hbn := OK.out.blocks
        have hz : D.cache[k]?.getD wr0 = D.cache[k] := by rw [List.getElem?_eq_getElem hlt]; rfl
        rw [hz] at k1 k2
        obtain ⟨⟨n, t⟩, hnt⟩ : ∃ p, D.cache[k] = p := ⟨_, rfl⟩
        rw [hnt] at k1 k2 hmem hin
        dsimp only at k1 k2 hmem
        have hkn : KOK n := WalkArith.wf_i64 (by omega)
        have hk2 : (k : Int) * 2 = ((k * 2 : Nat) : Int) := by omega
        have HF := Lib.hid hfr
        have HA := Lib.hid hfa
        have HIN := Lib.hid hin
        have HKN := Lib.hid hkn
        have HT := Lib.hid hmem.1
        have cbl := lt_of_block hfa.box
        have r0 : wr.cell? ⟨cb, 0, none⟩ = some kv := by rw [cell_of_row _ _ _ _ _ _ hfa.box]; rfl
        have r1 : wr.cell? ⟨cb, 1, none⟩ = some (.int .i64 tn) := by rw [cell_of_row _ _ _ _ _ _ hfa.box]; rfl
        clear hfr hfa hkn hmem hcells hcv hz hk2 hin hnt
        by_cases htn : (k : Int) = tn
        · have hbt : ((k : Int) == tn) = true := beq_iff_eq.2 htn
          clear htn
          go_wp2_with fail
          have hb0 : Below wr.heap.size wr (wr.alloc (.cells #[.int .i64 n, .string t] 187)) := (Below.refl _ wr).alloc (Nat.le_refl _) _
          have gb := World.alloc_heap_new wr (.cells #[.int .i64 n, .string t] 187)
          have A3 : Hid (FA (paint xr wr.heap.size (d0 + 2)) d0 db sm (.slice (some ⟨b, 0, none⟩) D.cache.length cT) Nm D cb kv tn mk f k (wr.alloc (.cells #[.int .i64 n, .string t] 187))) := Lib.hid (HA.out.below hb0 (fun b hb => paint_old hb))
          have F3 : Hid (Fr x (paint xr wr.heap.size (d0 + 2)) (DC d0) w (wr.alloc (.cells #[.int .i64 n, .string t] 187))) := Lib.hid (HF.out.trans (Fr.of_below hb0 ⟨by omega, by omega⟩))
          clear hb0
          generalize World.alloc wr _ = W3 at gb A3 F3 ⊢
          generalize paint xr wr.heap.size (d0 + 2) = x3 at A3 F3
          generalize hlb : wr.heap.size = lb at gb ⊢
          refine (kept_any _ d0 db _ (N + k) W3 n (A3.out.dis hb1 hb2 hb3) ⟨OK.out.blocks, OK.out.sectors, A3.out.fp.size, OK.out.cache⟩ HKN.out).mono ?_
          rintro e W4 ⟨rfl, hb4⟩
          have KZ : Hid (((f n).getD (zerosB D.size)).size = D.size) := Lib.hid (by
            rcases hfn : f n with _ | u
            · exact zerosB_size _
            · exact A3.out.fp.size n u hfn)
          have g4 : W4.heap[lb]? = some (.cells #[.int .i64 n, .string t] 187 (0, 0)) := (hb4.block _ (lt_of_block gb)).trans gb
          have A4 := Lib.hid (A3.out.below hb4 (x' := paint x3 W3.heap.size (d0 + 2)) (fun b hb => paint_old hb))
          have F4 := Lib.hid (F3.out.trans (Fr.of_below (C := DC d0) (c := d0 + 2) hb4 ⟨by omega, by omega⟩))
          generalize paint x3 W3.heap.size (d0 + 2) = x4 at A4 F4
          obtain ⟨kt, hkt⟩ : ∃ kt, Dev.kept { D with safe := f } n = kt := ⟨_, rfl⟩
          have HKT : Hid ((f n).getD (zerosB D.size) = kt) := Lib.hid hkt
          rw [hkt]
          rw [HKT.out] at KZ
          have hcv := run_bytes_of_string (P := Try.prog) W4 9 72 5 kt Try.underlying9 Try.underlying72 Try.underlying5
          have BR4 := Lib.hid (BR.made W4 kt (grownCap W4 kt.size 0 5) 5)
          have BB4 : Hid (Below W4.heap.size W4 (W4.drew.alloc (.cells (bytesRow kt (grownCap W4 kt.size 0 5)) 5 ((bytesRow kt (grownCap W4 kt.size 0 5)).size, (bytesRow kt (grownCap W4 kt.size 0 5)).size + 1)))) := Lib.hid (((Below.refl _ W4).drew).alloc (Nat.le_refl _) _)
          have kz : kt.size ≤ 4096 := by rw [KZ.out]; unfold Dev.size; omega
          clear hkt gb hb4 A3 F3
          generalize W4.drew.alloc _ = W5 at hcv BR4 BB4
          have A5 := Lib.hid (A4.out.below BB4.out (x' := paint x4 W4.heap.size (d0 + 2)) (fun b hb => paint_old hb))
          have s5 : W5.cell? ⟨db, 5, none⟩ = some (.int .i64 D.ns) := by rw [cell_of_row _ _ _ _ _ _ A5.out.h0]; rfl
          have g5 : W5.heap[lb]? = some (.cells #[.int .i64 n, .string t] 187 (0, 0)) := (BB4.out.block _ (lt_of_block g4)).trans g4
          have w50 : W4.cell? ⟨lb, 0, none⟩ = some (.int .i64 n) := by rw [cell_of_row _ _ _ _ _ _ g4]; rfl
          obtain ⟨gc, hgc⟩ : ∃ gc, grownCap W4 kt.size 0 5 = gc := ⟨_, rfl⟩
          have hgl : kt.size ≤ gc := by rw [← hgc]; exact grownCap_ge _ _ _ _
          rw [hgc] at hcv
          clear hgc
          go_wp2_with fail
          generalize hgg : W4.heap.size = gg at BR4 ⊢
          have BB4 : Hid (Below W4.heap.size W4 W5) := BB4
          go_loopw [33] (fun i wq => ∃ s : Nat, i = .int .i64 s ∧ s ≤ D.ns ∧ ∃ l : List UInt8, l.length = D.size ∧ BR wq gg l ∧ Below W4.heap.size W4 wq ∧ ∀ k, k < D.ns → sectL l k = sectL kt.data.toList k ∨ sectL l k = sectL t.data.toList k) (fun i _ => D.ns - (intOf i).toNat)
          case atStart => exact ⟨0, rfl, by omega, kt.data.toList, by rw [Array.length_toList]; exact KZ.out, BR4.out, BB4.out, fun k _ => .inl rfl⟩
          case round =>
            obtain ⟨s, rfl, hsn, l, hl, hbr, hbq, hsec⟩ := hrel
            have AQ := Lib.hid (A4.out.below hbq (x' := paint x4 W4.heap.size (d0 + 2)) (fun b hb => paint_old hb))
            have q2 : wr.cell? ⟨cb, 2, none⟩ = some (.int .u8 mk) := by rw [cell_of_row _ _ _ _ _ _ AQ.out.box]; rfl
            by_cases hs : s < D.ns
            · obtain ⟨bt, hbt2⟩ : ∃ bt, (bits BinOp.and IntKind.u8 (mk / 2 ^ s) 1 == 1) = bt := ⟨_, rfl⟩
              have SEC := Lib.hid hsec
              have BQ := Lib.hid hbq
              have BRQ := Lib.hid hbr
              have HL := Lib.hid hl
              have gq : wr.heap[lb]? = some (.cells #[.int .i64 n, .string t] 187 (0, 0)) := (hbq.block _ (lt_of_block g4)).trans g4
              have q1 : wr.cell? ⟨lb, 1, none⟩ = some (.string t) := by rw [cell_of_row _ _ _ _ _ _ gq]; rfl
              clear hsec hbq hbr hl gq
              cases bt with
              | false =>
                go_wp2_with fail
                go_roundw
                case rel => exact ⟨s + 1, by go_num, by omega, l, HL.out, BRQ.out, BQ.out, SEC.out⟩
                case measure => simp [intOf]; omega
              | true =>
                go_upto_region 10 with fail
                refine wp_region_still_tail 12 (by kernel_rfl) (by kernel_rfl) ?_
                simp only [List.take_succ_cons, List.take_zero, List.drop_succ_cons, List.drop_zero]
                have hz9 : 512 * s + 512 ≤ kt.size := by rw [KZ.out]; unfold Dev.size; omega
                have hzt : 512 * s + 512 ≤ t.size := by rw [HT.out]; unfold Dev.size; omega
                obtain ⟨lo, hlo⟩ : ∃ lo : Nat, lo = 512 * s := ⟨_, rfl⟩
                obtain ⟨hi, hhi⟩ : ∃ hi : Nat, hi = 512 * s + 512 := ⟨_, rfl⟩
                have a1 : IntKind.i64.wrap ((s : Int) + 1) = (s : Int) + 1 := IntWalk.i64_in _ (by omega)
                have a2 : IntKind.i64.wrap ((s : Int) * 512) = (lo : Int) := (IntWalk.i64_in _ (by omega)).trans (by omega)
                have a3 : IntKind.i64.wrap (((s : Int) + 1) * 512) = (hi : Int) := (IntWalk.i64_in _ (by omega)).trans (by omega)
                have a4 : hi - lo = 512 := by omega
                have a5 : ¬ gc = lo := by omega
                have a6 : lo ≤ t.size := by omega
                have a7 : lo ≤ hi := by omega
                have a8 : hi ≤ gc := by omega
                have b6 : (lo : Int) ≤ t.size := by omega
                have b7 : (lo : Int) ≤ hi := by omega
                have b8 : (hi : Int) ≤ gc := by omega
                have HLO := Lib.hid hlo
                have HHI := Lib.hid hhi
                clear hlo hhi
                have q16 : ({ wr with drawn := wr.drawn + 1 } : World).cell? ⟨lb, 1, none⟩ = some (.string t) := q1
                have BR6 : Hid (BR ({ wr with drawn := wr.drawn + 1 } : World) gg l) := Lib.hid BRQ.out
                have B6 : Hid (Below W4.heap.size W4 ({ wr with drawn := wr.drawn + 1 } : World)) := Lib.hid BQ.out.drew
                generalize ({ wr with drawn := wr.drawn + 1 } : World) = W6 at q16 BR6 B6 ⊢
                obtain ⟨W7, hrun, hbr7, hg7, hz7⟩ := run_copy_sector (P := Try.prog) W6 gg s (gc - lo) l t 72 9 3 5 Try.underlying72 (by intro w; rfl) BR6.out (by rw [HL.out]; unfold Dev.size; omega) hzt
                rw [← HLO.out] at hrun
                have B7 := Lib.hid (B6.out.trans (show Below W4.heap.size W6 W7 from ⟨hg7.os, hg7.tape, hg7.output, hg7.size, fun b hb => hg7.block b (Nat.lt_of_lt_of_le hb B6.out.size) (fun e => by have := Option.some.inj e; omega)⟩))
                have BR7 := Lib.hid hbr7
                clear hbr7 hg7 hz7
                repeat still_step
                refine wpStill_nil ?_
                go_wp2_with fail
                go_roundw
                case rel => exact ⟨s + 1, by go_num, by omega, _, by rw [layL_len (by rw [HL.out]; unfold Dev.size; omega) (by rw [Array.length_toList]; exact hzt)]; exact HL.out, BR7.out, B7.out, fun k hk => by
                  rw [sectL_lay (by rw [HL.out]; unfold Dev.size; omega) (by rw [Array.length_toList]; exact hzt)]
                  by_cases hks : k = s
                  · subst hks; rw [if_pos rfl]; exact .inr rfl
                  · rw [if_neg hks]; exact SEC.out k hk⟩
                case measure => simp [intOf]; omega
            · obtain rfl : s = D.ns := by omega
              have B6 : Hid (Below W4.heap.size W4 ({ wr with drawn := wr.drawn + 1 } : World)) := Lib.hid hbq.drew
              have BR6 : Hid (BR ({ wr with drawn := wr.drawn + 1 } : World) gg l) := Lib.hid hbr
              have hts : (⟨l.toArray⟩ : ByteArray).size = D.size := by rw [← hl]; exact List.size_toArray
              have FP := Lib.hid (A4.out.fp.set HIN.out hts (fun k hk => by
                rw [HKT.out]
                rcases hsec k hk with e | e
                · exact .inl (sect_of e)
                · exact .inr (sect_of e)))
              have A6 := Lib.hid (A4.out.below B6.out (x' := paint x4 W4.heap.size (d0 + 2)) (fun b hb => paint_old hb))
              have F6 := Lib.hid (F4.out.trans (Fr.of_below (C := DC d0) (c := d0 + 2) B6.out ⟨by omega, by omega⟩))
              have g6 : ({ wr with drawn := wr.drawn + 1 } : World).heap[lb]? = some (.cells #[.int .i64 n, .string t] 187 (0, 0)) := (B6.out.block _ (lt_of_block g4)).trans g4
              have hlk : Hid (kt.size = l.length) := Lib.hid (by rw [hl, KZ.out])
              clear hsec hbq hbr hl hts
              go_upto_region 12 with fail
              refine wp_region_still_tail 8 (by kernel_rfl) (by kernel_rfl) ?_
              simp only [List.take_succ_cons, List.take_zero, List.drop_succ_cons, List.drop_zero]
              generalize ({ wr with drawn := wr.drawn + 1 } : World) = W6 at B6 BR6 A6 F6 g6 ⊢
              have hcv6 := BR6.out.back (P := Try.prog) 72 9 5 gc kt.size hlk.out Try.underlying72 Try.underlying5 Try.underlying9
              have k6 : W6.cell? ⟨db, 6, none⟩ = some (.map (some sm)) := by rw [cell_of_row _ _ _ _ _ _ A6.out.h0]; rfl
              have m0 : W6.cell? ⟨lb, 0, none⟩ = some (.int .i64 n) := by rw [cell_of_row _ _ _ _ _ _ g6]; rfl
              obtain ⟨w7, hrun, f7, a7⟩ := A6.out.store HKN.out (u := ⟨l.toArray⟩) (by simp only [maxLen]; omega) FP.out
              have F7 := Lib.hid (F6.out.trans f7)
              have A7 := Lib.hid a7
              clear f7 a7 F6 A6 B6 BR6 FP
              repeat still_step
              refine wpStill_nil ?_
              go_wp2_with fail
              go_roundw
              case rel => exact ⟨k + 1, by go_num, by omega, _, _, F7.out, A7.out⟩
              case measure => simp [intOf]; omega
        · have hbt : ((k : Int) == tn) = false := beq_eq_false_iff_ne.2 htn
          clear htn
          have hb0 : Below wr.heap.size wr (wr.alloc (.cells #[.int .i64 n, .string t] 187)) := (Below.refl _ wr).alloc (Nat.le_refl _) _
          have gb := World.alloc_heap_new wr (.cells #[.int .i64 n, .string t] 187)
          have A3 : Hid (FA (paint xr wr.heap.size (d0 + 2)) d0 db sm (.slice (some ⟨b, 0, none⟩) D.cache.length cT) Nm D cb kv tn mk f k (wr.alloc (.cells #[.int .i64 n, .string t] 187))) := Lib.hid (HA.out.below hb0 (fun b hb => paint_old hb))
          have F3 : Hid (Fr x (paint xr wr.heap.size (d0 + 2)) (DC d0) w (wr.alloc (.cells #[.int .i64 n, .string t] 187))) := Lib.hid (HF.out.trans (Fr.of_below hb0 ⟨by omega, by omega⟩))
          clear hb0
          go_wp2_with fail
          generalize World.alloc wr _ = W3 at gb A3 F3 ⊢
          generalize paint xr wr.heap.size (d0 + 2) = x3 at A3 F3
          generalize hlb : wr.heap.size = lb at gb ⊢
          refine (contains_any A3.out.keep k).mono ?_
          rintro e W4 ⟨⟨r, rfl⟩, rfl⟩
          cases r with
          | false =>
            go_wp2_with fail
            go_roundw
            case rel => exact ⟨k + 1, by go_num, by omega, _, _, F3.out, A3.out.next⟩
            case measure => simp [intOf]; omega
          | true =>
            have B6 : Hid (Below W3.heap.size W3 ({ W3 with drawn := W3.drawn + 1 } : World)) := Lib.hid (Below.refl _ _).drew
            have A6 := Lib.hid (A3.out.below B6.out (x' := x3) (fun b hb => rfl))
            have F6 : Hid (Fr x x3 (DC d0) w ({ W3 with drawn := W3.drawn + 1 } : World)) := Lib.hid (F3.out.trans (Fr.same rfl rfl rfl rfl (fun _ _ _ => rfl)))
            have FP := Lib.hid (A3.out.fp.set HIN.out HT.out (fun k _ => .inr rfl))
            go_upto_region 14 with fail
            refine wp_region_still_tail 8 (by kernel_rfl) (by kernel_rfl) ?_
            simp only [List.take_succ_cons, List.take_zero, List.drop_succ_cons, List.drop_zero]
            have G6 : Hid (({ W3 with drawn := W3.drawn + 1 } : World).heap[lb]? = some (.cells #[.int .i64 n, .string t] 187 (0, 0))) := Lib.hid gb
            generalize ({ W3 with drawn := W3.drawn + 1 } : World) = W6 at A6 F6 G6 ⊢
            have g6 := G6.out
            have k6 : W6.cell? ⟨db, 6, none⟩ = some (.map (some sm)) := by rw [cell_of_row _ _ _ _ _ _ A6.out.h0]; rfl
            have m0 : W6.cell? ⟨lb, 0, none⟩ = some (.int .i64 n) := by rw [cell_of_row _ _ _ _ _ _ g6]; rfl
            have m1 : W6.cell? ⟨lb, 1, none⟩ = some (.string t) := by rw [cell_of_row _ _ _ _ _ _ g6]; rfl
            obtain ⟨w7, hrun, f7, a7⟩ := A6.out.store HKN.out (u := t) (by simp only [maxLen]; omega) FP.out
            have F7 := Lib.hid (F6.out.trans f7)
            have A7 := Lib.hid a7
            clear f7 a7 F6 A6 B6 FP
            repeat still_step
            refine wpStill_nil ?_
            go_wp2_with fail
            go_roundw
            case rel => exact ⟨k + 1, by go_num, by omega, _, _, F7.out, A7.out⟩
            case measure => simp [intOf]; omega
    · obtain rfl : k = D.cache.length := by omega
      have tf : ∀ j, wr.frozen? ⟨db, j, none⟩ = false := fun j => frozen_of_row wr _ j _ _ hfa.h0
      have c7 : wr.cell? ⟨db, 7, none⟩ = some (.slice aT D.cache.length cT) := by rw [cell_of_row _ _ _ _ _ _ hfa.h0]; rfl
      have c0 : wr.cell? ⟨db, 0, none⟩ = some (.int .i64 0) := by rw [cell_of_row _ _ _ _ _ _ hfa.h0]; rfl
      have c1 : wr.cell? ⟨db, 1, none⟩ = some (.slice none 0 0) := by rw [cell_of_row _ _ _ _ _ _ hfa.h0]; rfl
      have c2 : wr.cell? ⟨db, 2, none⟩ = some (.int .i64 0) := by rw [cell_of_row _ _ _ _ _ _ hfa.h0]; rfl
      have c3 : wr.cell? ⟨db, 3, none⟩ = some (.int .u8 0) := by rw [cell_of_row _ _ _ _ _ _ hfa.h0]; rfl
      have c8 : wr.cell? ⟨db, 8, none⟩ = some (.bool D.down) := by rw [cell_of_row _ _ _ _ _ _ hfa.h0]; rfl
      have FA9 := Lib.hid hfa
      have F9 := Lib.hid hfr
      clear hfa hfr
      go_wp2_with fail
      go_end0
      have h0 := FA9.out.h0
      have g1 := heap_setCell_same wr db 7 _ _ (.slice none 0 0) h0
      have g2 := heap_setCell_same _ db 0 _ _ (.int .i64 0) g1
      have g3 := heap_setCell_same _ db 1 _ _ (.slice none 0 0) g2
      have g4 := heap_setCell_same _ db 2 _ _ (.int .i64 0) g3
      have g5 := heap_setCell_same _ db 3 _ _ (.int .u8 0) g4
      have g6 := heap_setCell_same _ db 8 _ _ (.bool true) g5
      have old : ∀ b, b ≠ db → ((((((wr.setCell ⟨db, 7, none⟩ (.slice none 0 0)).setCell ⟨db, 0, none⟩ (.int .i64 0)).setCell ⟨db, 1, none⟩ (.slice none 0 0)).setCell ⟨db, 2, none⟩ (.int .i64 0)).setCell ⟨db, 3, none⟩ (.int .u8 0)).setCell ⟨db, 8, none⟩ (.bool true)).heap[b]? = wr.heap[b]? := fun b hb => by
        rw [Below.heap_setCell _ _ _ _ hb, Below.heap_setCell _ _ _ _ hb, Below.heap_setCell _ _ _ _ hb, Below.heap_setCell _ _ _ _ hb, Below.heap_setCell _ _ _ _ hb, Below.heap_setCell _ _ _ _ hb]
      have f3 : Fr xr xr (DC d0) wr ((((((wr.setCell ⟨db, 7, none⟩ (.slice none 0 0)).setCell ⟨db, 0, none⟩ (.int .i64 0)).setCell ⟨db, 1, none⟩ (.slice none 0 0)).setCell ⟨db, 2, none⟩ (.int .i64 0)).setCell ⟨db, 3, none⟩ (.int .u8 0)).setCell ⟨db, 8, none⟩ (.bool true)) := Fr.same rfl rfl rfl (by simp) (fun b _ hC => old b (by rintro rfl; exact hC (by rw [FA9.out.hx]; exact ⟨Nat.le_refl _, by omega⟩)))
      obtain ⟨nv, hvm⟩ := FA9.out.vm
      exact ⟨rfl, _, FA9.out.fp.fell OK.out, xr, F9.out.trans f3, sm, .slice none 0 0, nv, Nm + D.cache.length, g6, FA9.out.hx, FA9.out.hs, hvm.frame (old sm (fun e => by have a := FA9.out.hs; rw [e, FA9.out.hx] at a; omega)), World.ownsRow_nil _ _ _ _, fun b hb => by simp [Value.ownBlock] at hb, hb1, hb2, by show Nm + D.cache.length + 0 ≤ N; omega⟩

end Go.Proofs.Ytbgbomlmgkgkoaa.dv
