/- stream: Close. stream: the document's constructors; made. stream: the law's awake(). stream: Blocks; colours. stream: what pieces say; (Piece).text; Verify; made with its map of blocks. stream: Flush: a space all of whose pages are written. -/
import Derived.Test.YtbgbomlmgkgkoaaGreatMgS
import Derived.Deep.RegionLaw
import Derived.Test.YtbgbomlmgkgkoaaGreatMgV
import Derived.Test.YtbgbomlmgkgkoaaGreatPoL
namespace Go.Proofs.YtbgbomlmgkgkoaaGreat.st
open Go.RowKit Go.Proofs.YtbgbomlmgkgkoaaGreat.own Go.Proofs.YtbgbomlmgkgkoaaGreat.dv Go.Proofs.YtbgbomlmgkgkoaaGreat.po Go.Proofs.YtbgbomlmgkgkoaaGreat.arcI

theorem closed_of {V1 : Int → ByteArray} {st ln sz zk : Nat} {T R1 : List UInt8} {tb f8 f4 : ByteArray} (hN : Near V1 st ln sz T R1) (h1 : 1 ≤ ln) (ht : tb.data.toList = R1 ++ List.replicate zk 0) (hz : R1.length + zk = sz - 12) (h8 : f8.data.toList = bytesN T.length 8) (h4 : f4.data.toList = bytesN (onS 0 T).toNat 4) :
    Closed (fun k => if k = (st : Int) + ((ln - 1 : Nat) : Int) then tb ++ f8 ++ f4 else V1 k) st ln sz T := by
  have ev : (st : Int) + ((ln - 1 : Nat) : Int) = (st : Int) + (ln : Int) - 1 := by omega
  have et : (tb ++ f8 ++ f4).data.toList = (R1 ++ List.replicate zk 0) ++ (bytesN T.length 8 ++ bytesN (onS 0 T).toNat 4) := by
    rw [ByteArray.data_append, ByteArray.data_append, Array.toList_append, Array.toList_append, ht, h8, h4, List.append_assoc]
  rw [ev]
  refine ⟨fun i hi => ?_, ?_⟩
  · exact hN.got (tb ++ f8 ++ f4) (List.replicate zk 0 ++ (bytesN T.length 8 ++ bytesN (onS 0 T).toNat 4)) (by rw [et, List.append_assoc]) i hi
  · show (if (st : Int) + (ln : Int) - 1 = (st : Int) + (ln : Int) - 1 then tb ++ f8 ++ f4 else V1 _).data.toList.drop (sz - 12) = _
    rw [if_pos rfl, et]
    exact List.drop_left' (by rw [List.length_append, List.length_replicate, hz])

/-- a writer with a second row of bytes beside its own -/
structure WR2 (x : Nat → Nat) (v0 c0 d0 : Nat) (w : World) (wb sb db eb N m st ln : Nat) (V : Int → ByteArray) (rv : Value) (pb xb qb : Nat) (R : List UInt8) (at_ len : Nat) (sum : Int) (dn : Bool) (v9 : Value) (n9 : Nat) (xs9 : List Value) (wr : World) : Prop where
  hv : ∀ e, VC v0 e → ¬ PC c0 d0 e
  hx : ∃ x', Fr x x' (WC c0 d0 v0) w wr ∧ WI x' v0 wr wb sb st ln rv pb xb qb R at_ len sum dn ∧ SV x' c0 d0 wr sb db eb N m V ∧ wr.ownsRow 0 5 1 v9 n9 xs9 ∧ ∀ b, v9.ownBlock = some b → x' b = v0 + 1
section
variable {x : Nat → Nat} {v0 c0 d0 : Nat} {w : World} {wb sb db eb N m st ln : Nat} {V : Int → ByteArray} {rv : Value} {pb xb qb : Nat} {R : List UInt8} {at_ len : Nat} {sum : Int} {dn : Bool} {v9 : Value} {n9 : Nat} {xs9 : List Value} {wr : World}
theorem WR2.toWS (h : WR2 x v0 c0 d0 w wb sb db eb N m st ln V rv pb xb qb R at_ len sum dn v9 n9 xs9 wr) : WS x v0 c0 d0 w wb sb db eb N m st ln V rv pb xb qb R at_ len sum dn wr := by
  obtain ⟨hv, x', f, i, s, -, -⟩ := h; exact ⟨hv, x', f, i, s⟩
theorem WR2.row (h : WR2 x v0 c0 d0 w wb sb db eb N m st ln V rv pb xb qb R at_ len sum dn v9 n9 xs9 wr) : wr.ownsRow 0 5 1 v9 n9 xs9 := by
  obtain ⟨hv, x', f, i, s, o, -⟩ := h; exact o
theorem WR2.start (h : WS x v0 c0 d0 w wb sb db eb N m st ln V rv pb xb qb R at_ len sum dn wr) {w1 : World} (hg : wr.grownBy w1 rv.ownBlock) (own9 : w1.ownsRow 0 5 1 v9 n9 xs9) (old : w1.ownsRow 0 5 1 rv R.length (bv R)) (hw : v9.ownBlock = rv.ownBlock ∨ v9.ownBlock = some wr.heap.size) :
    WR2 x v0 c0 d0 w wb sb db eb N m st ln V rv pb xb qb R at_ len sum dn v9 n9 xs9 w1 := by
  obtain ⟨hv, x', f, i, s⟩ := h
  have hK : Keeps wr w1 (fun b => rv.ownBlock = some b) := (Keeps.refl wr _).grown hg (fun k hk => .inl hk)
  have f1 : Fr x' (paint x' wr.heap.size (v0 + 1)) (fun e => e = v0 + 1) wr w1 := hK.fr rfl (fun b _ e => i.xr b e)
  have l0 := lt_of_block i.h0
  have lp := lt_of_block i.hp
  have lx := lt_of_block i.hx
  have lq := lt_of_block i.hq
  have s1 := s.frame f1 (fun e he hc => hv (v0 + 1) ⟨by omega, by omega⟩ (by rw [← hc]; exact PD_PC c0 d0 _ he))
  refine ⟨hv, _, f.trans (f1.mono (fun e he => .inr ⟨by omega, by omega⟩)), ⟨(f1.old wb l0 (by rw [i.x0]; omega)).trans i.h0, by rw [paint_old l0]; exact i.x0, old, fun b hb => by rw [paint_old (i.row.lt b hb).2]; exact i.xr b hb, (f1.old pb lp (by rw [i.xp]; omega)).trans i.hp, by rw [paint_old lp]; exact i.xp, (f1.old xb lx (by rw [i.xx]; omega)).trans i.hx, by rw [paint_old lx]; exact i.xx, (f1.old qb lq (by rw [i.xq]; omega)).trans i.hq, by rw [paint_old lq]; exact i.xq⟩, s1, own9, fun b hb => ?_⟩
  rcases hw with e | e
  · rw [hb] at e
    rw [paint_old (i.row.lt b e.symm).2]; exact i.xr b e.symm
  · rw [hb] at e
    have := Option.some.inj e
    exact paint_new (by omega)
theorem WR2.set (h : WR2 x v0 c0 d0 w wb sb db eb N m st ln V rv pb xb qb R at_ len sum dn v9 n9 xs9 wr) (o : Nat) (u : Value) (at' len' : Nat) (sum' : Int) (dn' : Bool) (e : (wrCells sb st ln rv at_ len sum pb xb qb dn).setIfInBounds o u = wrCells sb st ln rv at' len' sum' pb xb qb dn') :
    WR2 x v0 c0 d0 w wb sb db eb N m st ln V rv pb xb qb R at' len' sum' dn' v9 n9 xs9 (wr.setCell ⟨wb, o, none⟩ u) := by
  obtain ⟨hv, x', f, i, s, o9, q9⟩ := h
  have K := i.setAt o u rv R at' len' sum' dn' e i.row i.xr
  exact ⟨hv, x', f.trans (K.1.mono (fun e he => .inr ⟨by omega, by omega⟩)), K.2, s.frame K.1 (fun e he hc => hv v0 ⟨by omega, by omega⟩ (by rw [← hc]; exact PD_PC c0 d0 _ he)), (row_frame K.1 (by omega) o9 q9).1, q9⟩
theorem WR2.below (h : WR2 x v0 c0 d0 w wb sb db eb N m st ln V rv pb xb qb R at_ len sum dn v9 n9 xs9 wr) {wc : World} (hb : Below wr.heap.size wr wc) : WR2 x v0 c0 d0 w wb sb db eb N m st ln V rv pb xb qb R at_ len sum dn v9 n9 xs9 wc := by
  obtain ⟨hv, x', f, i, s, o9, q9⟩ := h
  have f2 : Fr x' (paint x' wr.heap.size (v0 + 1)) (fun e => e = v0 + 1) wr wc := Fr.of_below hb rfl
  have h9 := own_below o9 hb
  refine ⟨hv, paint x' wr.heap.size (v0 + 1), f.trans (f2.mono (fun e he => .inr ⟨by omega, by omega⟩)), ?_, s.frame f2 (fun e he hc => hv (v0 + 1) ⟨by omega, by omega⟩ (by rw [← hc]; exact PD_PC c0 d0 _ he)), h9, fun b hb' => by rw [paint_old (o9.lt b hb').2]; exact q9 b hb'⟩
  have l0 := lt_of_block i.h0
  have lp := lt_of_block i.hp
  have lx := lt_of_block i.hx
  have lq := lt_of_block i.hq
  have i2 := i.below hb
  exact ⟨i2.h0, by rw [paint_old l0]; exact i.x0, i2.row, fun b hb' => by rw [paint_old (i.row.lt b hb').2]; exact i.xr b hb', i2.hp, by rw [paint_old lp]; exact i.xp, i2.hx, by rw [paint_old lx]; exact i.xx, i2.hq, by rw [paint_old lq]; exact i.xq⟩
theorem WR2.put (h : WR2 x v0 c0 d0 w wb sb db eb N m st ln V rv pb xb qb R at_ len sum false v9 n9 xs9 wr) (hcd : c0 + 9 < d0 ∨ d0 + 2 < c0) (ha : st + at_ < 24) {t : ByteArray} (ht : t.size = 512 * m) (hN : N + 8 < 1099511627776) :
    Calls Tryz.prog 82 #[.string t, .pointer (some ⟨pb, 0, none⟩), .pointer (some ⟨xb, 0, none⟩), .pointer (some ⟨qb, 0, none⟩)] wr fun e w' => e = .returned (.int .i64 0) ∧
      WR2 x v0 c0 d0 w wb sb db eb (N + 8) m st ln (fun k => if k = (st : Int) + (at_ : Int) then t else V k) rv pb xb qb R (at_ + 1) len sum false v9 n9 xs9 w' := by
  obtain ⟨hv, x', f, i, s, o9, q9⟩ := h
  refine (put_any x' v0 c0 d0 wr wb sb db eb N m st ln V rv pb xb qb R at_ len sum t i s hcd hv ha ht hN).mono ?_
  rintro e w' ⟨rfl, x2, f2, i2, s2⟩
  obtain ⟨r1, r2⟩ := row_frame f2 (fun q => q.elim (hv (v0 + 1) ⟨by omega, by omega⟩) (by omega)) o9 q9
  exact ⟨rfl, hv, x2, f.trans (f2.mono (fun e he => he.imp id (fun he => ⟨by omega, by omega⟩))), i2, s2, r1, r2⟩
end

set_option maxRecDepth 100000 in
set_option maxHeartbeats 6400000 in
theorem Close_any (x : Nat → Nat) (v0 c0 d0 : Nat) (w : World) (wb sb db eb N m st ln : Nat) (V : Int → ByteArray) (T : List UInt8) (wr : World) (h : WZ x v0 c0 d0 w wb sb db eb N m st ln V T wr) (hm : 1 ≤ m ∧ m ≤ 8) (hcd : c0 + 9 < d0 ∨ d0 + 2 < c0) (hct : CT V st (512 * m) T (T.length / (512 * m)))
    (h1 : 1 ≤ ln) (h2 : st + ln ≤ 24) (h3 : T.length ≤ ln * (512 * m) - 12) (hN : N + 300 < 1099511627776) :
    Calls Tryz.prog 35 #[.pointer (some ⟨wb, 0, none⟩)] wr fun e w' => e = .returned (.int .i64 0) ∧
      ∃ V' rv pb xb qb R at_, WS x v0 c0 d0 w wb sb db eb (N + 16) m st ln V' rv pb xb qb R at_ T.length (onS 0 T) true w' ∧ Closed V' st ln (512 * m) T ∧ ∀ k, (k < (st : Int) ∨ (st : Int) + (ln : Int) ≤ k) → V' k = V k := by
  obtain ⟨rv, pb, xb, qb, hw⟩ := h
  have hmp : ln * (512 * m) ≤ 98304 := by have := Nat.mul_le_mul (show ln ≤ 24 by omega) (show 512 * m ≤ 4096 by omega); omega
  have hd0 : T.length / (512 * m) * (512 * m) ≤ T.length := Nat.div_mul_le_self _ _
  obtain ⟨i0, hi, hz0, hz1, hz2⟩ := info_parts Tryz.infoByte9
  have hus : U32 (onS 0 T) := notU_U32 (onF_U32 T (notU_U32 ⟨by decide, by decide⟩))
  obtain ⟨a, ha⟩ : ∃ a, T.length / (512 * m) = a := ⟨_, rfl⟩
  obtain ⟨sz, hsz⟩ : ∃ sz, 512 * m = sz := ⟨_, rfl⟩
  have hsz1 : 512 ≤ sz ∧ sz ≤ 4096 := by omega
  have hlr : T.length - a * sz < sz := by
    have q := Nat.lt_div_mul_add (a := T.length) (b := 512 * m) (by omega)
    rw [ha, hsz] at q; omega
  have HSZ := Lib.hid hsz
  have HA := Lib.hid ha
  have SR := Lib.hid hw
  rw [ha] at SR hct hd0
  rw [hsz] at SR hct hd0 h3 hmp ⊢
  rw [hsz] at HA
  have HCT := Lib.hid hct
  have hszi : ((512 * m : Nat) : Int) = (sz : Int) := by rw [hsz]
  have SZ := Lib.hid SR.out.Size
  rw [hszi] at SZ
  obtain ⟨rl, hrl⟩ : ∃ rl, (T.drop (a * sz)).length = rl := ⟨_, rfl⟩
  have hrl2 : rl = T.length - a * sz := by rw [← hrl, List.length_drop]
  have hal : a < ln := by
    rw [← ha]; exact Nat.div_lt_of_lt_mul (by rw [hsz, Nat.mul_comm]; have := Nat.mul_le_mul h1 hsz1.1; omega)
  have hrs : rl < sz := by omega
  have HRL := Lib.hid hrl
  have HRL2 := Lib.hid hrl2
  have HCF : Hid (U32 (onS 0 T)) := Lib.hid hus
  clear hw hct ha hsz hszi hrl hrl2 hlr hus hd0
  go_enter Tryz.func35, Tryz.ntmps35
  go_wp2_with fail
  refine SR.out.ready.mono ?_
  rintro e w1 ⟨rfl, rfl⟩
  obtain ⟨c0', -, c2', c3', c4', -⟩ := SR.out.cells
  have row := SR.out.row
  rw [HRL.out] at row
  obtain ⟨ra, rc, hrv⟩ := own_shape row
  subst hrv
  clear row
  go_upto_region 4 with fail
  go_wp2_with fail
  refine SZ.out.mono ?_
  rintro e w1 ⟨rfl, rfl⟩
  have e1 : IntKind.i64.wrap ((ln : Int) - 1) = (ln : Int) - 1 := IntWalk.i64_in _ (by omega)
  go_upto_region 5 with fail
  obtain ⟨t1, ht1⟩ : ∃ t1, decide ((a : Int) < (ln : Int) - 1) = t1 := ⟨_, rfl⟩
  obtain ⟨t2, ht2⟩ : ∃ t2, decide (0 < rl) = t2 := ⟨_, rfl⟩
  have HT1 := Lib.hid ht1
  have HT2 := Lib.hid ht2
  clear ht1 ht2
  go_cut [38] from 19 to 38 (fun s38 wc => s38 = .bool (t1 && t2) ∧ Below wr.heap.size wr wc)
  case first => as_aux_lemma =>
    have ht1 := HT1.out
    have ht2 := HT2.out
    cases t1 <;> cases t2
    all_goals
      go_quiet (fail)
      go_wp2_with fail
      go_meet
      case rel => exact ⟨by first | rfl | (rw [ht2]; rfl), ⟨rfl, rfl, rfl, Nat.le_refl _, fun _ _ => rfl⟩⟩
  case rest => as_aux_lemma =>
    obtain ⟨rfl, hbc⟩ := hcut
    have S2 := Lib.hid (SR.out.below hbc)
    clear c0' c2' c3' c4' SR hbc SZ
    go_upto_if 38 with (fail)
    go_cut [5] from 38 to 62 (fun s5 wd => ∃ V1 rv1 R1 a1, WS x v0 c0 d0 w wb sb db eb (N + 8) m st ln V1 rv1 pb xb qb R1 a1 T.length (onS 0 T) false wd ∧ Near V1 st ln sz T R1 ∧ ∀ k, (k < (st : Int) ∨ (st : Int) + (ln : Int) ≤ k) → V1 k = V k)
    case first => as_aux_lemma =>
      by_cases ht : (t1 && t2) = true
      · have ha1 : a < ln - 1 := by
          have q : t1 = true := by cases t1 <;> simp_all
          have q2 := HT1.out
          rw [q] at q2
          have q3 := of_decide_eq_true q2
          omega
        have hr1 : 0 < rl := by
          have q : t2 = true := by cases t2 <;> simp_all
          have q2 := HT2.out
          rw [q] at q2
          exact of_decide_eq_true q2
        rw [ht]
        clear HT1 HT2 ht
        obtain ⟨R, hR⟩ : ∃ R, T.drop (a * sz) = R := ⟨_, rfl⟩
        have HR := Lib.hid hR
        have hrlR : R.length = rl := by rw [← hR]; exact HRL.out
        rw [hR] at S2
        have row := S2.out.row
        rw [hrlR] at row
        have HRLR := Lib.hid hrlR
        obtain ⟨zk, hzk⟩ : ∃ zk, sz - rl = zk := ⟨_, rfl⟩
        have e3 : IntKind.i64.wrap ((sz : Int) - (rl : Int)) = (zk : Int) := by rw [IntWalk.i64_in _ (by omega)]; omega
        have hzk2 : zk ≤ 4096 := by omega
        have HZK : Hid (rl + zk = sz) := Lib.hid (by omega)
        have ROW : Hid (∀ W, Below wc.heap.size wc W → W.ownsRow 0 5 1 (.slice ra rl rc) rl (bv R)) := Lib.hid (fun W hb => own_below row hb)
        have SK : Hid (∀ W, Go.Proofs.YtbgbomlmgkgkoaaGreat.ev.SrcK Tryz.prog 55 3 5 i0 (.int .i64 (zk : Int)) zk (bv (List.replicate zk 0)) W) := Lib.hid (fun W => by
          rw [← zeros_cells]
          exact Go.Proofs.YtbgbomlmgkgkoaaGreat.ev.SrcK.ofZeros Tryz.underlying55 Tryz.underlying3 hi hz0 (by rw [hz1]; decide) (by rw [hz1]; rfl) (by rw [zeros_cells]; exact bv_one _) (by omega) (by rw [hz2]; omega))
        obtain ⟨tk, htk⟩ : ∃ tk : ByteArray, tk = ⟨(R ++ List.replicate zk 0).toArray⟩ := ⟨_, rfl⟩
        have HTK : Hid (tk.data.toList = R ++ List.replicate zk 0) := Lib.hid (by rw [htk])
        have hN8 : N + 8 < 1099511627776 := by omega
        have SA : Hid (∀ W, Below wc.heap.size wc W → ∀ v9 w9, w9.ownsRow 0 5 1 v9 (rl + zk) (bv R ++ bv (List.replicate zk 0)) → W.grownBy w9 (Value.slice ra rl rc).ownBlock → w9.ownsRow 0 5 1 (.slice ra rl rc) rl (bv R) →
            WS x v0 c0 d0 w wb sb db eb N m st ln V (.slice ra rl rc) pb xb qb R a T.length (onS 0 T) false w9 ∧ (convert 55 9 v9).run Tryz.prog w9 = .ok (.string tk) w9) := Lib.hid (fun W hb v9 w9 own9 hg9 old9 => ⟨(S2.out.below hb).grown (R := R) hg9 (by rw [HRLR.out]; exact old9), by rw [htk]; exact row_text (by rw [bv_append] at own9; rw [List.length_append, List.length_replicate, HRLR.out]; exact own9)⟩)
        have haln : st + a < 24 := by omega
        have TSZ : Hid (tk.size = 512 * m) := Lib.hid (by
          rw [htk]
          show (R ++ List.replicate zk 0).toArray.size = _
          rw [List.size_toArray, List.length_append, List.length_replicate, HRLR.out, HZK.out, HSZ.out])
        obtain ⟨-, -, -, c3, -, -, -, c7, -⟩ := S2.out.cells
        clear hR hrlR row hzk htk
        go_upto_region 6 with fail
        refine wp_region_held_drew (S := (fun w' => w'.cell? ⟨wb, 3, none⟩ = some (.slice ra rl rc) ∧ w'.cell? ⟨wb, 7, none⟩ = some (.func (.func 82) #[] #[.pointer (some ⟨pb, 0, none⟩), .pointer (some ⟨xb, 0, none⟩), .pointer (some ⟨qb, 0, none⟩)]))) (by kernel_rfl) ?_ (fun hHeld => ?_)
        · exact ⟨c3, c7⟩
        refine wpAnyH_take (i := 0) (v := ?_) rfl (by kernel_rfl) (by kernel_rfl) (by kernel_rfl) (fun _ _ _ h => h) (Or.inl ⟨by rfl, ?_⟩) (by assumption) ?_
        rotate_left
        · intro w hSw; (try dsimp only at hSw); go_simp; (try with_reducible rfl)
        try simp only [Act.put, List.setIfInBounds_toArray, List.set_cons_zero, List.set_cons_succ, List.getElem_toArray, List.getElem_cons_zero]
        refine wpAnyH_take (i := 1) (v := ?_) rfl (by kernel_rfl) (by kernel_rfl) (by kernel_rfl) (fun _ _ _ h => h) (Or.inl ⟨by rfl, ?_⟩) (by assumption) ?_
        rotate_left
        · intro w hSw; (try dsimp only at hSw); go_simp; (try with_reducible rfl)
        try simp only [Act.put, List.setIfInBounds_toArray, List.set_cons_zero, List.set_cons_succ, List.getElem_toArray, List.getElem_cons_zero, List.getElem_cons_succ]
        refine wpAnyH_take (i := 2) (v := ?_) rfl (by kernel_rfl) (by kernel_rfl) (by kernel_rfl) (fun _ _ _ h => h) (Or.inl ⟨by rfl, ?_⟩) (by assumption) ?_
        rotate_left
        · intro w hSw; (try dsimp only at hSw); go_simp; (try with_reducible rfl)
        try simp only [Act.put, List.setIfInBounds_toArray, List.set_cons_zero, List.set_cons_succ, List.getElem_toArray, List.getElem_cons_zero, List.getElem_cons_succ]
        refine wpAnyH_take (i := 3) (v := ?_) rfl (by kernel_rfl) (by kernel_rfl) (by kernel_rfl) (fun _ _ _ h => h) (Or.inl ⟨by rfl, ?_⟩) (by assumption) ?_
        rotate_left
        · intro w hSw; (try dsimp only at hSw); go_simp; (try with_reducible rfl)
        try simp only [Act.put, List.setIfInBounds_toArray, List.set_cons_zero, List.set_cons_succ, List.getElem_toArray, List.getElem_cons_zero, List.getElem_cons_succ]
        refine wpAnyH_take (i := 4) (v := ?_) rfl (by kernel_rfl) (by kernel_rfl) (by kernel_rfl) (fun _ _ _ h => h) (Or.inl ⟨by rfl, ?_⟩) (by assumption) ?_
        rotate_left
        · intro w hSw; (try dsimp only at hSw); go_simp; (try with_reducible rfl)
        try simp only [Act.put, List.setIfInBounds_toArray, List.set_cons_zero, List.set_cons_succ, List.getElem_toArray, List.getElem_cons_zero, List.getElem_cons_succ]
        refine wpAnyH_take (i := 5) (v := ?_) rfl (by kernel_rfl) (by kernel_rfl) (by kernel_rfl) (fun _ _ _ h => h) (Or.inl ⟨by rfl, ?_⟩) (by assumption) ?_
        rotate_left
        · intro w hSw; (try dsimp only at hSw); go_simp; (try with_reducible rfl)
        try simp only [Act.put, List.setIfInBounds_toArray, List.set_cons_zero, List.set_cons_succ, List.getElem_toArray, List.getElem_cons_zero, List.getElem_cons_succ]
        refine wpAnyH_take (i := 6) (v := ?_) rfl (by kernel_rfl) (by kernel_rfl) (by kernel_rfl) (fun _ _ _ h => h) (Or.inl ⟨by rfl, ?_⟩) (by assumption) ?_
        rotate_left
        · intro w hSw; (try dsimp only at hSw); go_simp; (try with_reducible rfl)
        try simp only [Act.put, List.setIfInBounds_toArray, List.set_cons_zero, List.set_cons_succ, List.getElem_toArray, List.getElem_cons_zero, List.getElem_cons_succ]
        refine wpAnyH_take (i := 7) (v := ?_) rfl (by kernel_rfl) (by kernel_rfl) (by kernel_rfl) (fun _ _ _ h => h) (Or.inl ⟨by rfl, ?_⟩) (by assumption) ?_
        rotate_left
        · intro w hSw; (try dsimp only at hSw); go_simp; (try with_reducible rfl)
        try simp only [Act.put, List.setIfInBounds_toArray, List.set_cons_zero, List.set_cons_succ, List.getElem_toArray, List.getElem_cons_zero, List.getElem_cons_succ]
        refine wpAnyH_take (i := 8) (v := ?_) rfl (by kernel_rfl) (by kernel_rfl) (by kernel_rfl) (fun _ _ _ h => h) (Or.inl ⟨by rfl, ?_⟩) (by assumption) ?_
        rotate_left
        · intro w hSw; (try dsimp only at hSw); go_simp; (try with_reducible rfl)
        try simp only [Act.put, List.setIfInBounds_toArray, List.set_cons_zero, List.set_cons_succ, List.getElem_toArray, List.getElem_cons_zero, List.getElem_cons_succ]
        refine wpAnyH_take (i := 9) (v := ?_) rfl (by kernel_rfl) (by kernel_rfl) (by kernel_rfl) (fun _ _ _ h => h) (Or.inl ⟨by rfl, ?_⟩) (by assumption) ?_
        rotate_left
        · intro w hSw; (try dsimp only at hSw); go_simp; (try with_reducible rfl)
        try simp only [Act.put, List.setIfInBounds_toArray, List.set_cons_zero, List.set_cons_succ, List.getElem_toArray, List.getElem_cons_zero, List.getElem_cons_succ]
        refine wpAnyH_take (i := 10) (v := ?_) rfl (by kernel_rfl) (by kernel_rfl) (by kernel_rfl) (fun _ _ _ h => h) (Or.inl ⟨by rfl, ?_⟩) (by assumption) ?_
        rotate_left
        · intro w hSw; (try dsimp only at hSw); go_simp; (try with_reducible rfl)
        try simp only [Act.put, List.setIfInBounds_toArray, List.set_cons_zero, List.set_cons_succ, List.getElem_toArray, List.getElem_cons_zero, List.getElem_cons_succ]
        refine wpAnyH_take (i := 11) (v := ?_) rfl (by kernel_rfl) (by kernel_rfl) (by kernel_rfl) (fun _ _ _ h => h) (Or.inl ⟨by rfl, ?_⟩) (by assumption) ?_
        rotate_left
        · intro w hSw; (try dsimp only at hSw); go_simp; (try with_reducible rfl)
        try simp only [Act.put, List.setIfInBounds_toArray, List.set_cons_zero, List.set_cons_succ, List.getElem_toArray, List.getElem_cons_zero, List.getElem_cons_succ]
        refine wpAnyH_take (i := 12) (v := ?_) rfl (by kernel_rfl) (by kernel_rfl) (by kernel_rfl) (fun _ _ _ h => h) (Or.inl ⟨by rfl, ?_⟩) (by assumption) ?_
        rotate_left
        · intro w hSw; (try dsimp only at hSw); go_simp; (try with_reducible rfl)
        try simp only [Act.put, List.setIfInBounds_toArray, List.set_cons_zero, List.set_cons_succ, List.getElem_toArray, List.getElem_cons_zero, List.getElem_cons_succ]
        refine wpAnyH_take (i := 13) (v := ?_) rfl (by kernel_rfl) (by kernel_rfl) (by kernel_rfl) (fun _ _ _ h => h) (Or.inl ⟨by rfl, ?_⟩) (by assumption) ?_
        rotate_left
        · intro w hSw; (try dsimp only at hSw); go_simp; (try with_reducible rfl)
        try simp only [Act.put, List.setIfInBounds_toArray, List.set_cons_zero, List.set_cons_succ, List.getElem_toArray, List.getElem_cons_zero, List.getElem_cons_succ]
        refine wpAnyH_take (i := 14) (v := ?_) rfl (by kernel_rfl) (by kernel_rfl) (by kernel_rfl) (fun _ _ _ h => h) (Or.inl ⟨by rfl, ?_⟩) (by assumption) ?_
        rotate_left
        · intro w hSw; (try dsimp only at hSw); go_simp; (try with_reducible rfl)
        try simp only [Act.put, List.setIfInBounds_toArray, List.set_cons_zero, List.set_cons_succ, List.getElem_toArray, List.getElem_cons_zero, List.getElem_cons_succ]
        refine wpAnyH_ready (rs := [15]) (by kernel_rfl) (by simp) ?_
        refine AllReadyH.cons rfl (fun K hK => ?_) AllReadyH.nil
        refine wp_append_k _ (by rfl) _ _ 55 3 (by rfl) 0 5 i0 _ hz1 hz0 rfl (by omega) (.slice ra rl rc) rl (bv R) (by rfl) (ROW.out _ (Below.refl _ _).drew) _ zk _ (by rfl) (SK.out _) (bv_one _) (by omega) (Nat.zero_le _) ?_
        intro v9 w9 own9 hg9 hw9 old9
        have S9 := Lib.hid (SA.out _ (Below.refl _ _).drew v9 w9 own9 hg9 old9)
        have hcv := S9.out.2
        refine hK.out _ _ ?_ (fun hHeld2 => ?_)
        · obtain ⟨-, -, -, q3, -, -, -, q7, -⟩ := S9.out.1.cells
          exact ⟨q3, q7⟩
        clear hK K hHeld own9 hg9 hw9 old9
        try simp only [Act.put, List.setIfInBounds_toArray, List.set_cons_zero, List.set_cons_succ, List.getElem_toArray, List.getElem_cons_zero, List.getElem_cons_succ]
        refine wpAnyH_ready (rs := [16]) (by kernel_rfl) (by simp) ?_
        refine AllReadyH.cons rfl (fun K hK => ?_) AllReadyH.nil
        go_simp
        refine hK.out _ _ ?_ (fun hHeld3 => ?_)
        · exact hHeld2
        clear hK K hHeld2
        try simp only [Act.put, List.setIfInBounds_toArray, List.set_cons_zero, List.set_cons_succ, List.getElem_toArray, List.getElem_cons_zero, List.getElem_cons_succ]
        refine wpAnyH_ready (rs := [17]) (by kernel_rfl) (by simp) ?_
        refine AllReadyH.cons rfl (fun K hK => ?_) AllReadyH.nil
        go_simp
        with_reducible refine Calls.mono (S9.out.1.put hcd haln TSZ.out hN8) ?_
        rintro e w8 ⟨rfl, s8⟩
        have S8 := Lib.hid s8
        clear s8 hcv S9
        go_wp2_with fail
        refine hK.out _ _ ?_ (fun hHeld4 => ?_)
        · obtain ⟨-, -, -, q3, -, -, -, q7, -⟩ := S8.out.cells
          exact ⟨q3, q7⟩
        clear hK K hHeld3
        try simp only [Act.put, List.setIfInBounds_toArray, List.set_cons_zero, List.set_cons_succ, List.getElem_toArray, List.getElem_cons_zero, List.getElem_cons_succ]
        refine wpAnyH_take (i := 18) (v := ?_) rfl (by kernel_rfl) (by kernel_rfl) (by kernel_rfl) (fun _ _ _ h => h) (Or.inl ⟨by rfl, ?_⟩) (by assumption) ?_
        rotate_left
        · intro w hSw; (try dsimp only at hSw); go_simp; (try with_reducible rfl)
        try simp only [Act.put, List.setIfInBounds_toArray, List.set_cons_zero, List.set_cons_succ, List.getElem_toArray, List.getElem_cons_zero, List.getElem_cons_succ]
        refine wpAnyH_done (by kernel_rfl) ?_ _
        obtain ⟨-, -, -, c3, -, -, -, -, -, cf, -⟩ := S8.out.cells
        have f3 := cf 3
        clear cf
        have FIN : Hid (∃ V1 rv1 R1 a1, WS x v0 c0 d0 w wb sb db eb (N + 8) m st ln V1 rv1 pb xb qb R1 a1 T.length (onS 0 T) false (w8.setCell ⟨wb, 3, none⟩ (.slice none 0 0)) ∧ Near V1 st ln sz T R1 ∧ ∀ k, (k < (st : Int) ∨ (st : Int) + (ln : Int) ≤ k) → V1 k = V k) := Lib.hid ⟨_, _, [], a + 1, S8.out.rest (R1 := []) (row := none) (.inr rfl) ⟨rfl, rfl, rfl, Nat.le_refl _, fun _ _ _ => rfl⟩ (World.ownsRow_nil _ _ _ _) (.inl rfl), near_a HCT.out HA.out hsz1.1 ha1 _ (List.replicate zk 0) (by rw [HR.out]; exact HTK.out), fun k hk => if_neg (by omega)⟩
        clear S8
        go_wp2_with fail
        go_meet
        case rel => exact FIN.out
      · rw [Bool.not_eq_true] at ht
        have NB : Hid (Near V st ln sz T (T.drop (a * sz))) := Lib.hid (near_b HCT.out HA.out hsz1.1 h1 h3 (fun hq => by
          have q1 := HT1.out
          have q2 := HT2.out
          have q3 : t1 = true := by rw [← q1]; exact decide_eq_true (by omega)
          rw [q3] at ht
          have q4 : t2 = false := ht
          rw [q4] at q2
          have q5 := of_decide_eq_false q2
          have := HRL2.out
          omega))
        rw [ht]
        clear HT1 HT2 ht
        go_wp2_with fail
        go_meet
        case rel => exact ⟨V, _, _, _, S2.out.mono (by omega), NB.out, fun _ _ => rfl⟩
    case rest => as_aux_lemma =>
      obtain ⟨V1, rv1, R1, a1, hS, hN1, hO1⟩ := hcut
      have S3 := Lib.hid hS
      have NE := Lib.hid hN1
      have OU := Lib.hid hO1
      have hle := hN1.le
      obtain ⟨sn, hsn⟩ : ∃ sn : Nat, onS 0 T = (sn : Int) := ⟨(onS 0 T).toNat, by have := HCF.out.1; omega⟩
      have hsnl : sn < 4294967296 := by have := HCF.out.2; omega
      have HSN := Lib.hid hsn
      rw [hsn] at S3
      obtain ⟨L, hL⟩ : ∃ L, T.length = L := ⟨_, rfl⟩
      rw [hL] at S3 h3
      have HL := Lib.hid hL
      obtain ⟨r1, hr1⟩ : ∃ r1, R1.length = r1 := ⟨_, rfl⟩
      have HR1 := Lib.hid hr1
      rw [hr1] at hle
      clear hS hN1 hO1 hsn hL HCF S2 HRL HRL2 hrs HT1 HT2
      have row := S3.out.row
      rw [hr1] at row
      obtain ⟨ra1, rc1, hrv⟩ := own_shape row
      subst hrv
      obtain ⟨zk, hzk⟩ : ∃ zk, sz - 12 - r1 = zk := ⟨_, rfl⟩
      have e2 : IntKind.i64.wrap ((sz : Int) - 12) = (sz : Int) - 12 := IntWalk.i64_in _ (by omega)
      have e3 : IntKind.i64.wrap ((sz : Int) - 12 - (r1 : Int)) = (zk : Int) := by rw [IntWalk.i64_in _ (by omega)]; omega
      have hzk2 : zk ≤ 4096 := by omega
      have HZK : Hid (r1 + zk = sz - 12) := Lib.hid (by omega)
      have hrz : r1 + zk ≤ 1099511627776 := by omega
      have ROW : Hid (∀ W, Below wc.heap.size wc W → W.ownsRow 0 5 1 (.slice ra1 r1 rc1) r1 (bv R1)) := Lib.hid (fun W hb => own_below row hb)
      have SK : Hid (∀ W, Go.Proofs.YtbgbomlmgkgkoaaGreat.ev.SrcK Tryz.prog 55 3 5 i0 (.int .i64 (zk : Int)) zk (bv (List.replicate zk 0)) W) := Lib.hid (fun W => by
        rw [← zeros_cells]
        exact Go.Proofs.YtbgbomlmgkgkoaaGreat.ev.SrcK.ofZeros Tryz.underlying55 Tryz.underlying3 hi hz0 (by rw [hz1]; decide) (by rw [hz1]; rfl) (by rw [zeros_cells]; exact bv_one _) (by omega) (by rw [hz2]; omega))
      clear row hzk hr1
      obtain ⟨-, -, -, c3, -⟩ := S3.out.cells
      go_upto_region 10 with fail
      refine wp_region_still_tail 12 (by kernel_rfl) (by kernel_rfl) ?_
      simp only [List.take_succ_cons, List.take_zero, List.drop_succ_cons, List.drop_zero]
      have W4B : Hid (Below wc.heap.size wc ({ wc with drawn := wc.drawn + 1 } : World)) := Lib.hid ⟨rfl, rfl, rfl, Nat.le_refl _, fun _ _ => rfl⟩
      have c3 : ({ wc with drawn := wc.drawn + 1 } : World).cell? ⟨wb, 3, none⟩ = some (.slice ra1 r1 rc1) := c3
      generalize ({ wc with drawn := wc.drawn + 1 } : World) = W4 at W4B c3 ⊢
      repeat still_step
      refine wpStill_nil ?_
      go_wp2_with (at_builtin; refine wpList_append_o _ rfl _ _ 55 3 rfl 0 5 i0 _ hz1 hz0 rfl (by omega) (.slice ra1 r1 rc1) r1 (bv R1) rfl (ROW.out _ W4B.out) _ zk _ rfl (SK.out _) (bv_one _) hrz (Nat.zero_le _) ?_)
      intro v9 w9 own9 hg9 hw9 old9
      obtain ⟨tb, htb⟩ : ∃ tb : ByteArray, tb = ⟨(R1 ++ List.replicate zk 0).toArray⟩ := ⟨_, rfl⟩
      have HTB : Hid (tb.data.toList = R1 ++ List.replicate zk 0) := Lib.hid (by rw [htb])
      have hl1 : ((ln : Int) - 1) = ((ln - 1 : Nat) : Int) := by omega
      have S4 := Lib.hid (S3.out.below W4B.out)
      have S9 := Lib.hid (S4.out.grown (R := R1) hg9 (by rw [HR1.out]; exact old9))
      have S10 := Lib.hid ((WR2.start (R := R1) S4.out hg9 own9 (by rw [HR1.out]; exact old9) hw9).set 4 (.int .i64 ((ln : Int) - 1)) (ln - 1) L (sn : Int) false (by rw [hl1]; rfl))
      have CV : Hid (∀ W, W.ownsRow 0 5 1 v9 (r1 + zk) (bv R1 ++ bv (List.replicate zk 0)) → (convert 55 9 v9).run Tryz.prog W = .ok (.string tb) W) := Lib.hid (fun W o1 => by
        rw [htb]
        exact row_text (by rw [bv_append] at o1; rw [List.length_append, List.length_replicate, HR1.out]; exact o1))
      obtain ⟨a9, p9, hv9⟩ := own_shape own9
      subst hv9
      obtain ⟨-, -, c2, -, c4, -, -, -, -, cf, -⟩ := S9.out.cells
      have f4 := cf 4
      have HL1 := Lib.hid hl1
      clear own9 hg9 hw9 old9 htb S3 S4 S9 cf c3 hl1
      go_upto_region 12 with fail
      generalize w9.setCell ⟨wb, 4, none⟩ _ = W5 at S10 CV ⊢
      clear c2 c4 f4
      obtain ⟨f8, hf8⟩ : ∃ f8 : ByteArray, f8 = ⟨(bytesN L 8).toArray⟩ := ⟨_, rfl⟩
      obtain ⟨f4, hf4⟩ : ∃ f4 : ByteArray, f4 = ⟨(bytesN sn 4).toArray⟩ := ⟨_, rfl⟩
      have HF8 : Hid (f8.data.toList = bytesN L 8) := Lib.hid (by rw [hf8])
      have HF4 : Hid (f4.data.toList = bytesN sn 4) := Lib.hid (by rw [hf4])
      have FX8 := Lib.hid (fun W => fixed_any W L 8 (by decide))
      have FX4 := Lib.hid (fun W => fixed_any W sn 4 (by decide))
      rw [← hf8] at FX8
      rw [← hf4] at FX4
      have e5 : IntKind.u64.wrap (L : Int) = (L : Int) := IntWalk.u64_in _ (by omega)
      have e6 : IntKind.u64.wrap (sn : Int) = (sn : Int) := IntWalk.u64_in _ (by omega)
      have TSZ : Hid ((tb ++ f8 ++ f4).size = 512 * m) := Lib.hid (by
        have q : (tb ++ f8 ++ f4).data.toList.length = (tb ++ f8 ++ f4).size := by rw [Array.length_toList]; rfl
        rw [← q, ByteArray.data_append, ByteArray.data_append, Array.toList_append, Array.toList_append, HTB.out, HF8.out, HF4.out]
        simp only [List.length_append, List.length_replicate, bytesN_len, HR1.out]
        have := HZK.out
        rw [HSZ.out]; omega)
      have hst : st + (ln - 1) < 24 := by omega
      have hN16 : N + 8 + 8 < 1099511627776 := by omega
      have KC : Hid (∀ W, Below W5.heap.size W5 W → W.cell? ⟨wb, 5, none⟩ = some (.int .i64 (L : Int)) ∧ W.cell? ⟨wb, 6, none⟩ = some (.int .u32 (sn : Int)) ∧ W.cell? ⟨wb, 7, none⟩ = some (.func (.func 82) #[] #[.pointer (some ⟨pb, 0, none⟩), .pointer (some ⟨xb, 0, none⟩), .pointer (some ⟨qb, 0, none⟩)]) ∧ (convert 55 9 (.slice a9 (r1 + zk) p9)).run Tryz.prog W = .ok (.string tb) W) := Lib.hid (fun W hb => by
        have h2 := S10.out.below hb
        obtain ⟨-, -, -, -, -, q5, q6, q7, -⟩ := h2.toWS.cells
        exact ⟨q5, q6, q7, CV.out _ h2.row⟩)
      have hq0 : tb.size + f8.size + f4.size ≤ 4096 := by
        have q := TSZ.out
        rw [ByteArray.size_append, ByteArray.size_append] at q
        omega
      have g1 : ¬ (9223372036854775807 : Int) < (tb.size : Int) + (f8.size : Int) := by omega
      have g2 : ¬ (9223372036854775807 : Int) < (tb.size : Int) + (f8.size : Int) + (f4.size : Int) := by omega
      have g3 : ¬ 9223372036854775807 < tb.size + f8.size := by omega
      have g4 : ¬ 9223372036854775807 < tb.size + f8.size + f4.size := by omega
      have g5 : ¬ (((tb.size + f8.size : Nat) : Int) > IntKind.i64.max) := by
        have : IntKind.i64.max = 9223372036854775807 := by decide
        omega
      have g6 : ¬ ((((tb ++ f8).size + f4.size : Nat) : Int) > IntKind.i64.max) := by
        have : IntKind.i64.max = 9223372036854775807 := by decide
        rw [ByteArray.size_append]
        omega
      have B0 : Hid (Below W5.heap.size W5 W5.drew) := Lib.hid (Below.refl _ _).drew
      have R2 := KC.out _ B0.out
      clear hf8 hf4
      go_region_held3 (fun w' => w'.cell? ⟨wb, 5, none⟩ = some (.int .i64 (L : Int)) ∧ w'.cell? ⟨wb, 6, none⟩ = some (.int .u32 (sn : Int)) ∧ w'.cell? ⟨wb, 7, none⟩ = some (.func (.func 82) #[] #[.pointer (some ⟨pb, 0, none⟩), .pointer (some ⟨xb, 0, none⟩), .pointer (some ⟨qb, 0, none⟩)]) ∧ (convert 55 9 (.slice a9 (r1 + zk) p9)).run Tryz.prog w' = .ok (.string tb) w')
        (first
        | (with_reducible assumption)
        | (exact R2)
        | (exact KC.out _ B0.out))
        (first
        | (go_at_call 85; with_reducible refine Calls.mono (FX8.out _) ?_; rintro e wx ⟨rfl, kx⟩; have B0 : Hid (Below W5.heap.size W5 wx) := Lib.hid (B0.out.trans (kx.mono B0.out.size)); clear kx R2; have R2 := KC.out _ B0.out)
        | (go_at_call 85; with_reducible refine Calls.mono (FX4.out _) ?_; rintro e wx ⟨rfl, kx⟩; have B0 : Hid (Below W5.heap.size W5 wx) := Lib.hid (B0.out.trans (kx.mono B0.out.size)); clear kx R2; have R2 := KC.out _ B0.out)
        | (have q1 := S10.out.below B0.out; have q2 := q1.put hcd hst TSZ.out hN16; with_reducible refine Calls.mono q2 ?_; clear q1 q2 R2; rintro e w8 ⟨rfl, s8⟩; have S8 := Lib.hid s8; clear s8; have R2 := (by (obtain ⟨-, -, -, -, -, q5, q6, q7, -⟩ := S8.out.toWS.cells; exact ⟨q5, q6, q7, CV.out _ S8.out.row⟩) : w8.cell? ⟨wb, 5, none⟩ = some (.int .i64 (L : Int)) ∧ w8.cell? ⟨wb, 6, none⟩ = some (.int .u32 (sn : Int)) ∧ w8.cell? ⟨wb, 7, none⟩ = some (.func (.func 82) #[] #[.pointer (some ⟨pb, 0, none⟩), .pointer (some ⟨xb, 0, none⟩), .pointer (some ⟨qb, 0, none⟩)]) ∧ (convert 55 9 (.slice a9 (r1 + zk) p9)).run Tryz.prog w8 = .ok (.string tb) w8)))
      all_goals
        obtain ⟨-, -, -, -, -, -, -, -, c8, cf, -⟩ := S8.out.toWS.cells
        have f8' := cf 8
        have S14 := Lib.hid (S8.out.toWS.set 8 (.bool true) (ln - 1 + 1) L (sn : Int) true rfl)
        clear cf S8 R2
        go_wp2_with fail
        go_ret
        refine ⟨rfl, _, .slice ra1 r1 rc1, pb, xb, qb, R1, ln - 1 + 1, by rw [HL.out, HSN.out]; exact S14.out.mono (by omega), closed_of NE.out h1 HTB.out (by rw [HR1.out]; exact HZK.out) (by rw [HL.out]; exact HF8.out) (by rw [HSN.out]; exact HF4.out), fun k hk => ?_⟩
        show (if k = (st : Int) + ((ln - 1 : Nat) : Int) then tb ++ f8 ++ f4 else V1 k) = V k
        rw [if_neg (by omega)]
        exact OU.out k hk

end Go.Proofs.YtbgbomlmgkgkoaaGreat.st

namespace Go.Proofs.YtbgbomlmgkgkoaaGreat.st
open Go.RowKit Go.Proofs.YtbgbomlmgkgkoaaGreat.own Go.Proofs.YtbgbomlmgkgkoaaGreat.dv Go.Proofs.YtbgbomlmgkgkoaaGreat.po Go.Proofs.YtbgbomlmgkgkoaaGreat.arcI

theorem rcheck_any (w : World) (nb ns : Nat) (h1 : 16 ≤ nb ∧ nb ≤ 4096) (h2 : 1 ≤ ns ∧ ns ≤ 8) :
    Calls Tryz.prog 80 #[.agg #[.int .i64 nb, .int .i64 ns]] w fun e w' => e = .returned (.int .i64 0) ∧ Below w.heap.size w w' := by
  have a1 : decide ((nb : Int) < 16) = false := decide_eq_false (by omega)
  have a2 : decide ((4096 : Int) < (nb : Int)) = false := decide_eq_false (by omega)
  have a3 : decide ((ns : Int) < 1) = false := decide_eq_false (by omega)
  have a4 : decide ((8 : Int) < (ns : Int)) = false := decide_eq_false (by omega)
  go_enter Tryz.func80, Tryz.ntmps80
  go_wp2_with fail
  go_ret
  exact ⟨rfl, (Below.refl _ w).alloc (Nat.le_refl _) _⟩

theorem Tryz.infoStr9 : (Tryz.prog.info? 9).map (fun i => (i.zero, i.size, i.bytes)) = some (some (.string ⟨#[]⟩), 1, 16) := by kernel_rfl
theorem Tryz.infoInt9 : (Tryz.prog.info? 3).map (fun i => (i.zero, i.size, i.bytes)) = some (some (.int .i64 0), 1, 8) := by kernel_rfl
def StrK (xs : List Value) : Prop := ∀ v ∈ xs, v.oneCell' = true

def rdev9 (m : Nat) (rv : Value) : Array Value := #[.int .i64 24, .int .i64 (m : Int), rv, .slice none 0 0, .int .i64 0, .slice none 0 0, .int .i64 0, .int .u8 0, .bool false, .int .i64 0, .int .i64 0]
set_option maxRecDepth 100000 in
set_option maxHeartbeats 3200000 in
theorem rnew04_any (w : World) (m : Nat) (hm : 1 ≤ m ∧ m ≤ 8) :
    Calls Tryz.prog 29 #[.agg #[.int .i64 24, .int .i64 (m : Int)]] w fun e w' => ∃ b, e = .returned (.tuple #[.pointer (some ⟨b, 0, none⟩), .int .i64 0]) ∧ Below w.heap.size w w' := by
  obtain ⟨i0, hi, hz0, hz1, hz2⟩ := info_parts Tryz.infoStr9
  obtain ⟨i1, hi1, hy0, hy1, hy2⟩ := info_parts Tryz.infoByte9
  have HI1 := Lib.hid hi1
  have HY0 := Lib.hid hy0
  have HY1 := Lib.hid hy1
  have HY2 := Lib.hid hy2
  clear hi1 hy0 hy1 hy2
  go_enter Tryz.func29, Tryz.ntmps29
  go_wp2_with fail
  have hb0 : Below w.heap.size w (w.alloc (.cells #[.int .i64 24, .int .i64 (m : Int)] 89)) := (Below.refl _ w).alloc (Nat.le_refl _) _
  have hgb := World.alloc_heap_new w (.cells #[.int .i64 24, .int .i64 (m : Int)] 89)
  have B0 := Lib.hid hb0
  have G0 := Lib.hid hgb
  clear hb0 hgb
  generalize World.alloc w _ = W0 at B0 G0 ⊢
  refine (rcheck_any W0 24 m (by omega) hm).mono ?_
  rintro e w1 ⟨rfl, hb1⟩
  have g1 : w1.heap[w.heap.size]? = _ := (hb1.block _ (lt_of_block G0.out)).trans G0.out
  have B1 := Lib.hid (B0.out.trans (hb1.mono B0.out.size))
  have G1 := Lib.hid g1
  have k0 : w1.cell? ⟨w.heap.size, 0, none⟩ = some (.int .i64 24) := by rw [cell_of_row w1 _ _ _ _ _ g1]; rfl
  have k1 : w1.cell? ⟨w.heap.size, 1, none⟩ = some (.int .i64 (m : Int)) := by rw [cell_of_row w1 _ _ _ _ _ g1]; rfl
  clear hb1 g1 B0 G0
  go_wp2_with fail
  have hgd := World.alloc_heap_new w1 (.cells (rdev9 m (.slice none 0 0)) 177)
  have hbd : Below w.heap.size w (w1.alloc (.cells (rdev9 m (.slice none 0 0)) 177)) := B1.out.alloc B1.out.size _
  have hgg : (w1.alloc (.cells (rdev9 m (.slice none 0 0)) 177)).heap[w.heap.size]? = _ := (Below.heap_alloc _ _ _ (lt_of_block G1.out)).trans G1.out
  have hlt := lt_of_block G1.out
  have BD := Lib.hid hbd
  have GD := Lib.hid hgd
  have GG := Lib.hid hgg
  clear hbd hgd hgg k0 k1 B1 G1
  change Code.wp _ _ _ _ (w1.alloc (.cells (rdev9 m (.slice none 0 0)) 177))
  generalize w1.alloc _ = W3 at BD GD GG ⊢
  generalize w1.heap.size = gd at GD hlt ⊢
  go_loopw [5] (fun i wr => ∃ k : Nat, i = .int .i64 (k : Int) ∧ k ≤ 24 ∧ ∃ rv xs, wr.heap[gd]? = some (.cells (rdev9 m rv) 177 (0, 0)) ∧ wr.heap[w.heap.size]? = some (.cells #[.int .i64 24, .int .i64 (m : Int)] 89 (0, 0)) ∧ wr.ownsRow (gd + 1) 9 1 rv k xs ∧ Below w.heap.size w wr) (fun i _ => 24 - (intOf i).toNat)
  case atStart => exact ⟨0, rfl, by omega, _, [], GD.out, GG.out, World.ownsRow_nil _ _ _ _, BD.out⟩
  case round =>
    obtain ⟨k, rfl, hk, rv, xs, hd, hg, ho, hb⟩ := hrel
    have H0 := Lib.hid hd
    have H1 := Lib.hid hg
    have H2 := Lib.hid ho
    have H3 := Lib.hid hb
    have c0 : wr.cell? ⟨w.heap.size, 0, none⟩ = some (.int .i64 24) := by rw [cell_of_row _ _ _ _ _ _ hg]; rfl
    have c1 : wr.cell? ⟨w.heap.size, 1, none⟩ = some (.int .i64 (m : Int)) := by rw [cell_of_row _ _ _ _ _ _ hg]; rfl
    have c2 : wr.cell? ⟨gd, 2, none⟩ = some rv := by rw [cell_of_row _ _ _ _ _ _ hd]; rfl
    clear hd hg ho hb
    by_cases hlt2 : k < 24
    · obtain ⟨sz, hsz⟩ : ∃ sz, 512 * m = sz := ⟨_, rfl⟩
      have e1 : IntKind.i64.wrap (512 * (m : Int)) = (sz : Int) := by rw [IntWalk.i64_in _ (by omega)]; omega
      have hsz2 : sz ≤ 4096 := by omega
      clear hsz
      obtain ⟨w4, hrun, hown, hgr⟩ := run_make_full (P := Tryz.prog) wr.drew wr.drew.heap.size 55 5 i1 _ 1 (by kernel_rfl) HI1.out HY0.out HY1.out .i64 .i64 sz (by rw [HY2.out]; omega) (by simp only [maxLen]; omega) (Nat.le_refl _)
      have hzz : wr.drew.heap.size = wr.heap.size := rfl
      rw [hzz] at hrun hown
      have hg4 : wr.heap.size ≤ w4.heap.size := hgr.size
      clear hzz
      have h04 : w4.heap[gd]? = some (.cells (rdev9 m rv) 177 (0, 0)) := (hgr.block _ (lt_of_block H0.out) (by simp)).trans H0.out
      have ecs : (madeCells (Value.int .u8 0).cells (sz * 1)).toList = bv (List.replicate sz 0) := by
        rw [show (Value.int .u8 0).cells = #[.int .u8 0] from rfl, toList_madeCells_one]
        simp [bv]
      rw [ecs] at hown
      have hcv := row_text (W := w4) (l := List.replicate sz 0) (by rw [List.length_replicate]; exact own_base hown (Nat.zero_le _))
      obtain ⟨tz, htz⟩ : ∃ tz : ByteArray, tz = ⟨(List.replicate sz (0 : UInt8)).toArray⟩ := ⟨_, rfl⟩
      rw [← htz] at hcv
      have BW : Hid (Below wr.heap.size wr (w4.alloc (.cells #[.string tz] 9))) := Lib.hid (by
        have b1 : Below wr.heap.size wr w4 := ⟨hgr.os, hgr.tape, hgr.output, hgr.size, fun k hk => hgr.block k hk (by simp)⟩
        exact b1.alloc b1.size _)
      have GN := Lib.hid (World.alloc_heap_new w4 (.cells #[.string tz] 9))
      have SRC : Hid (Go.Proofs.YtbgbomlmgkgkoaaGreat.ev.SrcK Tryz.prog 173 173 9 i0 (.slice (some ⟨w4.heap.size, 0, none⟩) 1 1) 1 [.string tz] (w4.alloc (.cells #[.string tz] 9))) := Lib.hid (Go.Proofs.YtbgbomlmgkgkoaaGreat.ev.SrcK.ofSrc Tryz.underlying173 hi (by
        rw [hz1]
        exact Src.ofSlice _ Tryz.underlying173 _ _ _ _ rfl (fun j u hj => by
          obtain rfl : j = 0 := by
            cases j with
            | zero => rfl
            | succ j => simp at hj
          rw [Addr.add_lit, cell_of_row _ _ _ _ _ _ GN.out]; exact hj) (by intro u hu; simp at hu; subst hu; rfl)))
      have OW5 := Lib.hid (own_below H2.out BW.out)
      have hs1 : ∀ y ∈ [Value.string tz], y.oneCell' = true := by intro u hu; simp at hu; subst hu; rfl
      have hgs : gd + 1 ≤ (w4.alloc (.cells #[.string tz] 9)).heap.size := by have := BW.out.size; have := lt_of_block H0.out; omega
      have HRV : Hid (∀ b, rv.ownBlock = some b → gd + 1 ≤ b) := Lib.hid (fun b hb => (H2.out.lt b hb).1)
      have c24 : w4.cell? ⟨gd, 2, none⟩ = some rv := by rw [cell_of_row _ _ _ _ _ _ h04]; rfl
      have c25 : (w4.alloc (.cells #[.string tz] 9)).cell? ⟨gd, 2, none⟩ = some rv := by rw [cell_of_row _ _ _ _ _ _ ((Below.heap_alloc _ _ _ (lt_of_block h04)).trans h04)]; rfl
      clear hown hgr ecs htz hg4 h04
      go_upto_region 7 with fail
      go_region_law (first
        | (refine wp_append_k _ (by rfl) _ _ 173 173 (by rfl) (gd + 1) 9 i0 _ hz1 hz0 rfl (by omega) rv k xs (by rfl) OW5.out _ 1 [.string tz] (by rfl) SRC.out hs1 (by omega) hgs ?_; intro v9 w9 own9 hg9 hw9 old9; obtain ⟨a9, p9, hv9⟩ := own_shape own9; subst hv9; have O9 := Lib.hid own9; have K9 := Lib.hid hg9; have g9 := (hg9.block gd (by omega) (fun e => by have := HRV.out gd e.symm; omega)).trans ((BW.out.block gd (lt_of_block H0.out)).trans H0.out); have c2 : w9.cell? ⟨gd, 2, none⟩ = some rv := (by rw [cell_of_row _ _ _ _ _ _ g9]; rfl); have f2 : w9.frozen? ⟨gd, 2, none⟩ = false := frozen_of_row _ _ _ _ _ g9; have G9 := Lib.hid g9; clear g9 own9 hg9 hw9 old9))
      all_goals
        go_wp2_with fail
        go_roundw
        case rel =>
          have hb9 : Below w.heap.size w w9 := (H3.out.trans (BW.out.mono H3.out.size)).grown K9.out (by have := BW.out.size; have := H3.out.size; omega) (fun b hb => by have := HRV.out b hb; omega)
          exact ⟨k + 1, by go_num, by omega, _, xs ++ [.string tz], by rw [heap_setCell_same w9 gd 2 _ _ _ G9.out]; rfl, (Below.heap_setCell w9 _ _ _ (show w.heap.size ≠ gd by omega)).trans ((K9.out.block _ (by have := lt_of_block H0.out; have := BW.out.size; omega) (fun e => by have := HRV.out _ e.symm; omega)).trans ((BW.out.block _ (lt_of_block H1.out)).trans H1.out)), O9.out.kept (grownBy_setCell_at w9 gd 2 _) (.inr (fun e => by have := (O9.out.lt _ e).1; omega)), hb9.setCell (p := ⟨gd, 2, none⟩) (by show w.heap.size ≤ gd; omega) _⟩
        case measure => simp [intOf]; omega
    · obtain rfl : k = 24 := by omega
      go_wp2_with fail
      refine bodyPost_ret (v := .tuple #[.pointer (some ⟨gd, 0, none⟩), .int .i64 0]) (by simp [results, Tryz.f29, go_sem]) rfl ?_
      exact ⟨_, rfl, H3.out⟩

set_option maxRecDepth 100000 in
theorem rnew06_any (w : World) :
    Calls Tryz.prog 30 #[.int .i64 2, .int .i64 24] w fun e w' => ∃ b, e = .returned (.tuple #[.pointer (some ⟨b, 0, none⟩), .int .i64 0]) ∧ Below w.heap.size w w' := by
  obtain ⟨i0, hi, hz0, hz1, hz2⟩ := info_parts Tryz.infoInt9
  obtain ⟨w1, hrun, hown, hg⟩ := run_make_full (P := Tryz.prog) w w.heap.size 107 3 i0 _ 1 (by kernel_rfl) hi hz0 hz1 .i64 .i64 24 (by rw [hz2]; omega) (by simp only [maxLen]; omega) (Nat.le_refl _)
  rw [show ((24 : Nat) : Int) = 24 from rfl] at hrun
  have B1 : Below w.heap.size w w1 := ⟨hg.os, hg.tape, hg.output, hg.size, fun k hk => hg.block k hk (by simp)⟩
  clear hown hg
  go_enter Tryz.func30, Tryz.ntmps30
  go_wp2_with fail
  refine bodyPost_ret (v := .tuple #[.pointer (some ⟨w1.heap.size, 0, none⟩), .int .i64 0]) (by simp [results, Tryz.f30, go_sem]) rfl ?_
  exact ⟨_, rfl, B1.alloc B1.size _⟩
theorem rnew09_any (w : World) (n : Nat) (h1 : 1 ≤ n) (h2 : n ≤ 1024) :
    Calls Tryz.prog 81 #[.int .i64 (n : Int)] w fun e w' => ∃ b, e = .returned (.tuple #[.pointer (some ⟨b, 0, none⟩), .int .i64 0]) ∧ Below w.heap.size w w' := by
  have hmm := @run_makeMap Tryz.prog
  have a1 : decide ((n : Int) < 1) = false := decide_eq_false (by omega)
  have a2 : decide ((4096 : Int) < (n : Int)) = false := decide_eq_false (by omega)
  go_enter Tryz.func81, Tryz.ntmps81
  go_wp2_with fail
  refine bodyPost_ret (v := .tuple #[.pointer (some ⟨w.heap.size + 1, 0, none⟩), .int .i64 0]) (by simp [results, Tryz.f81, go_sem]) rfl ?_
  exact ⟨_, rfl, ((Below.refl _ w).alloc (Nat.le_refl _) _).alloc (by simp) _⟩
theorem rnew10_any (w : World) (n : Nat) (h1 : 1 ≤ n) (h2 : n ≤ 1024) (db mb : Nat) :
    Calls Tryz.prog 31 #[.pointer (some ⟨db, 0, none⟩), .int .i64 (n : Int), .pointer (some ⟨mb, 0, none⟩)] w fun e w' => ∃ b, e = .returned (.tuple #[.pointer (some ⟨b, 0, none⟩), .int .i64 0]) ∧ Below w.heap.size w w' := by
  have a1 : decide ((n : Int) < 1) = false := decide_eq_false (by omega)
  have a2 : decide ((1024 : Int) < (n : Int)) = false := decide_eq_false (by omega)
  go_enter Tryz.func31, Tryz.ntmps31
  go_wp2_with fail
  refine (rnew09_any _ n h1 h2).mono ?_
  rintro e w1 ⟨b, rfl, hb⟩
  have B := Lib.hid hb
  clear hb
  go_wp2_with fail
  refine bodyPost_ret (v := .tuple #[.pointer (some ⟨w1.heap.size, 0, none⟩), .int .i64 0]) (by simp [results, Tryz.f31, go_sem]) rfl ?_
  exact ⟨_, rfl, B.out.alloc B.out.size _⟩

/-! ### the law's world, made new -/
theorem mod3_is (m : Int) : ∃ z : Nat, wrap64 (1 + (wrap64 (m.tmod 3 + 3)).tmod 3) = z ∧ 1 ≤ z ∧ z ≤ 3 := by
  have h1 : -3 < m.tmod 3 := Int.lt_tmod_of_pos m (by omega)
  have h2 : m.tmod 3 < 3 := Int.tmod_lt_of_pos m (by omega)
  generalize m.tmod 3 = r at h1 h2 ⊢
  rw [IntWalk.wrap64_in (r + 3) (by omega), Int.tmod_eq_emod_of_nonneg (by omega), IntWalk.wrap64_in _ (by omega)]
  exact ⟨(1 + (r + 3) % 3).toNat, by omega, by omega, by omega⟩
theorem mod9_is (m : Int) : ∃ z : Nat, wrap64 (1 + (wrap64 (m.tmod 9 + 9)).tmod 9) = z ∧ 1 ≤ z ∧ z ≤ 9 := by
  have h1 : -9 < m.tmod 9 := Int.lt_tmod_of_pos m (by omega)
  have h2 : m.tmod 9 < 9 := Int.tmod_lt_of_pos m (by omega)
  generalize m.tmod 9 = r at h1 h2 ⊢
  rw [IntWalk.wrap64_in (r + 9) (by omega), Int.tmod_eq_emod_of_nonneg (by omega), IntWalk.wrap64_in _ (by omega)]
  exact ⟨(1 + (r + 9) % 9).toNat, by omega, by omega, by omega⟩
def MC (c0 d0 e0 : Nat) : Nat → Prop := fun e => PC c0 d0 e ∨ EC e0 e ∨ e = 45
set_option maxRecDepth 100000 in
set_option maxHeartbeats 1600000 in
theorem made_any (x : Nat → Nat) (c0 d0 e0 : Nat) (hcd : c0 + 9 < d0 ∨ d0 + 2 < c0) (hde : d0 + 2 < e0 ∨ e0 + 1 < d0) (hq : ¬ PD c0 d0 45) (w : World) (s0 f0 : Int) :
    Calls Tryz.prog 6 #[.int .i64 s0, .int .i64 f0] w fun e w' => ∃ sb db eb mb rb m fr x', e = .returned (.tuple #[.agg #[.pointer (some ⟨db, 0, none⟩), .pointer (some ⟨sb, 0, none⟩), .pointer (some ⟨mb, 0, none⟩), .pointer (some ⟨rb, 0, none⟩)], .bool true]) ∧
      1 ≤ m ∧ m ≤ 3 ∧ 1 ≤ fr ∧ fr ≤ 9 ∧ Fr x x' (MC c0 d0 e0) w w' ∧ SIs x' c0 d0 w' sb db eb (newP fr) (newD 24 m) 0 := by
  obtain ⟨m, hm, s1, s2⟩ := mod3_is s0
  obtain ⟨fr, hfr, t1, t2⟩ := mod9_is f0
  go_enter Tryz.func6, Tryz.ntmps6
  go_wp2_with fail
  simp only [hm, hfr]
  have hb0 : Below w.heap.size w (w.alloc (.cells #[.pointer none, .pointer none, .pointer none, .pointer none] 29)) := (Below.refl _ w).alloc (Nat.le_refl _) _
  have hf0 : Fr x (paint x w.heap.size 45) (MC c0 d0 e0) w (w.alloc (.cells #[.pointer none, .pointer none, .pointer none, .pointer none] 29)) := Fr.of_below hb0 (.inr (.inr rfl))
  have hxg : paint x w.heap.size 45 w.heap.size = 45 := paint_new (Nat.le_refl _)
  have hgb := World.alloc_heap_new w (.cells #[.pointer none, .pointer none, .pointer none, .pointer none] 29)
  have F0 := Lib.hid hf0
  have G0 := Lib.hid hgb
  clear hb0 hf0 hgb hm hfr
  generalize World.alloc w _ = W0 at F0 G0 ⊢
  generalize paint x w.heap.size 45 = x0 at F0 hxg
  have XG := Lib.hid hxg
  clear hxg
  refine (DNew_any x0 d0 W0 24 m (by omega) (by omega)).mono ?_
  rintro e w1 ⟨db, x1, rfl, f1, d1, b1⟩
  have F1 := Lib.hid (F0.out.trans (f1.mono (D := MC c0 d0 e0) (fun e he => .inl (.inr he))))
  have D1 := Lib.hid d1
  have G1 := Lib.hid ((b1.block _ (lt_of_block G0.out)).trans G0.out)
  have X1 := Lib.hid ((f1.col _ (lt_of_block G0.out)).trans XG.out)
  clear f1 d1 b1 F0 G0 XG
  go_wp2_with fail
  refine (ENew_any x1 e0 w1 2 24 (by omega) (by omega)).mono ?_
  rintro e w2 ⟨eb, x2, rfl, f2, -, b2⟩
  have D2 := Lib.hid (D1.out.frame f2 (fun e he hc => by have a := he.1; have a2 := he.2; have b := hc.1; have b2 := hc.2; omega))
  have F2 := Lib.hid (F1.out.trans (f2.mono (D := MC c0 d0 e0) (fun e he => .inr (.inl he))))
  have G2 := Lib.hid ((b2.block _ (lt_of_block G1.out)).trans G1.out)
  have X2 := Lib.hid ((f2.col _ (lt_of_block G1.out)).trans X1.out)
  clear f2 b2 F1 D1 G1 X1
  go_wp2_with fail
  refine (PNew_any x2 c0 db eb w2 fr t1 (by omega)).mono ?_
  rintro e w3 ⟨sb, cb, pm, x3, rfl, f3, t3, b3⟩
  have D3 := Lib.hid (D2.out.frame f3 (fun e he hc => by have a := he.1; have a2 := he.2; have b := hc.1.1; have b2 := hc.1.2; omega))
  have F3 := Lib.hid (F2.out.trans (f3.mono (D := MC c0 d0 e0) (fun e he => .inl (.inl he.1))))
  have S3 : Hid (SIs x3 c0 d0 w3 sb db eb (newP fr) (newD 24 m) 0) := Lib.hid ⟨⟨cb, pm, _, t3⟩, D3.out⟩
  have G3 := Lib.hid ((b3.block _ (lt_of_block G2.out)).trans G2.out)
  have X3 := Lib.hid ((f3.col _ (lt_of_block G2.out)).trans X2.out)
  clear f3 b3 t3 F2 D2 G2 X2 D3
  go_wp2_with fail
  refine (rnew04_any w3 m (by omega)).mono ?_
  rintro e w4 ⟨mb, rfl, b4⟩
  have B4 := Lib.hid b4
  clear b4
  go_wp2_with fail
  refine (rnew06_any w4).mono ?_
  rintro e w5 ⟨nb, rfl, b5⟩
  have B5 := Lib.hid (B4.out.trans (b5.mono B4.out.size))
  clear b5 B4
  go_wp2_with fail
  refine (rnew10_any w5 fr t1 (by omega) mb nb).mono ?_
  rintro e w6 ⟨rb, rfl, b6⟩
  have B6 := Lib.hid (B5.out.trans (b6.mono B5.out.size))
  clear b6 B5
  have G6 : w6.heap[w.heap.size]? = _ := (B6.out.block _ (lt_of_block G3.out)).trans G3.out
  have F6 : Fr x3 (paint x3 w3.heap.size 45) (fun e => e = 45) w3 w6 := Fr.of_below B6.out rfl
  have X6 : paint x3 w3.heap.size 45 w.heap.size = 45 := (F6.col _ (lt_of_block G3.out)).trans X3.out
  have S6 := Lib.hid (S3.out.frame F6 (fun e he hc => by subst hc; exact hq he))
  have FF := Lib.hid (F3.out.trans (F6.mono (D := MC c0 d0 e0) (fun e he => .inr (.inr he))))
  have k0 : w6.cell? ⟨w.heap.size, 0, none⟩ = some (.pointer none) := by rw [cell_of_row _ _ _ _ _ _ G6]; rfl
  have k1 : w6.cell? ⟨w.heap.size, 1, none⟩ = some (.pointer none) := by rw [cell_of_row _ _ _ _ _ _ G6]; rfl
  have k2 : w6.cell? ⟨w.heap.size, 2, none⟩ = some (.pointer none) := by rw [cell_of_row _ _ _ _ _ _ G6]; rfl
  have k3 : w6.cell? ⟨w.heap.size, 3, none⟩ = some (.pointer none) := by rw [cell_of_row _ _ _ _ _ _ G6]; rfl
  have kf : ∀ j, w6.frozen? ⟨w.heap.size, j, none⟩ = false := fun j => frozen_of_row _ _ _ _ _ G6
  have kf0 := kf 0
  have kf1 := kf 1
  have kf2 := kf 2
  have kf3 := kf 3
  have G6 := Lib.hid G6
  have X6 := Lib.hid X6
  clear kf F6 G3 X3 F3 S3 B6
  go_wp2_with fail
  refine bodyPost_ret (v := .tuple #[.agg #[.pointer (some ⟨db, 0, none⟩), .pointer (some ⟨sb, 0, none⟩), .pointer (some ⟨mb, 0, none⟩), .pointer (some ⟨rb, 0, none⟩)], .bool true]) (by simp [results, Tryz.f6, go_sem, k0, k1, k2, k3]) rfl ?_
  have f7 : Fr (paint x3 w3.heap.size 45) (paint x3 w3.heap.size 45) (fun e => e = 45) w6 ((((w6.setCell ⟨w.heap.size, 0, none⟩ (.pointer (some ⟨db, 0, none⟩))).setCell ⟨w.heap.size, 1, none⟩ (.pointer (some ⟨sb, 0, none⟩))).setCell ⟨w.heap.size, 2, none⟩ (.pointer (some ⟨mb, 0, none⟩))).setCell ⟨w.heap.size, 3, none⟩ (.pointer (some ⟨rb, 0, none⟩))) := Fr.same rfl rfl rfl (by simp) (fun b _ hC => by
    have hne : b ≠ w.heap.size := by rintro rfl; exact hC X6.out
    rw [Below.heap_setCell _ _ _ _ hne, Below.heap_setCell _ _ _ _ hne, Below.heap_setCell _ _ _ _ hne, Below.heap_setCell _ _ _ _ hne])
  exact ⟨sb, db, eb, mb, rb, m, fr, _, rfl, s1, s2, t1, t2, FF.out.trans (f7.mono (fun e he => .inr (.inr he))), S6.out.frame f7 (fun e he hc => by subst hc; exact hq he)⟩

end Go.Proofs.YtbgbomlmgkgkoaaGreat.st

namespace Go.Proofs.YtbgbomlmgkgkoaaGreat.st
open Go.RowKit Go.Proofs.YtbgbomlmgkgkoaaGreat.own Go.Proofs.YtbgbomlmgkgkoaaGreat.dv Go.Proofs.YtbgbomlmgkgkoaaGreat.po Go.Proofs.YtbgbomlmgkgkoaaGreat.arcI

/-- a space that was made new, by what its blocks have -/
theorem SV.made {x : Nat → Nat} {c0 d0 : Nat} {w : World} {sb db eb m fr : Nat} (h : SIs x c0 d0 w sb db eb (newP fr) (newD 24 m) 0) (hm : 1 ≤ m ∧ m ≤ 8) (h1 : 1 ≤ fr) (h2 : fr ≤ 30) : ∃ V, SV x c0 d0 w sb db eb 0 m V :=
  vc.VV.made h (by omega) hm h1 (by omega)

theorem dbl_all (b : UInt8) (size : Nat) : ∀ (f : Nat) (t : ByteArray), (∀ x ∈ t.data.toList, x = b) → ∀ x ∈ (dbl size f t).data.toList, x = b
  | 0, _, h => h
  | f + 1, t, h => by
    show ∀ x ∈ (if t.size < size then dbl size f (t ++ t) else t).data.toList, x = b
    by_cases hs : t.size < size
    · rw [if_pos hs]
      refine dbl_all b size f _ (fun x hx => ?_)
      rw [ByteArray.data_append, Array.toList_append] at hx
      rcases List.mem_append.1 hx with hx | hx <;> exact h x hx
    · rw [if_neg hs]; exact h
theorem fill_a (size : Nat) : (fillS ⟨#[97]⟩ size).data.toList = List.replicate size 97 := by
  have hz : ∀ x ∈ (fillS ⟨#[97]⟩ size).data.toList, x = 97 := by
    unfold fillS
    rw [if_neg (show ¬ (⟨#[97]⟩ : ByteArray).size = 0 by decide)]
    intro x hx
    have h0 := dbl_all 97 size size ⟨#[97]⟩ (fun x hx => by simpa using hx)
    rw [extract_list] at hx
    exact h0 x (List.mem_of_mem_drop (List.mem_of_mem_take hx))
  exact List.eq_replicate_iff.2 ⟨by rw [Array.length_toList]; exact fillS_size ⟨#[97]⟩ size, hz⟩
theorem WZ.start {x : Nat → Nat} {v0 c0 d0 : Nat} {w : World} {wb sb db eb N m st ln : Nat} {V : Int → ByteArray} {pb xb qb : Nat} {wr : World} (h : WS x v0 c0 d0 w wb sb db eb N m st ln V (.slice none 0 0) pb xb qb [] 0 0 (onS 0 []) false wr) : WZ x v0 c0 d0 w wb sb db eb N m st ln V [] wr := by
  unfold WZ
  refine ⟨.slice none 0 0, pb, xb, qb, ?_⟩
  rw [List.length_nil, Nat.zero_div, List.drop_nil]
  exact h
theorem onS_U32 (l : List UInt8) : U32 (onS 0 l) := notU_U32 (onF_U32 l (notU_U32 ⟨by decide, by decide⟩))
theorem PD_VC : ∀ e, PD 0 20 e → ¬ VC 50 e := fun e he hc => by
  have b := hc.1
  rcases he with he | he
  · have := he.1.2; omega
  · have := he.2; omega
theorem VC_PC : ∀ e, VC 50 e → ¬ PC 0 20 e := fun e hc he => by
  have b := hc.1
  rcases he with he | he
  · have := he.2; omega
  · have := he.2; omega
theorem nPC {e : Nat} (h : 23 ≤ e) : ¬ PC 0 20 e := fun he => by
  rcases he with he | he
  · have := he.2; omega
  · have := he.2; omega
theorem PC_AQ : ∀ e, PC 0 20 e → e ≤ 95 := fun e he => by
  rcases he with he | he
  · have := he.2; omega
  · have := he.2; omega

def AQ : Nat → Prop := fun e => e ≤ 95
set_option maxRecDepth 100000 in
set_option maxHeartbeats 6400000 in
theorem awake_any (w : World) :
    Calls Tryz.prog 7 #[] w fun e w' => e = .returned (.bool true) ∧ Below w.heap.size w w' := by
  go_enter Tryz.func7, Tryz.ntmps7
  go_wp2_with fail
  refine (made_any (fun _ => 100) 0 20 30 (.inl (by omega)) (.inl (by omega)) (by rintro (q | q); exact absurd q.1.2 (by omega); exact absurd q.2 (by omega)) w 0 2).mono ?_
  rintro e w1 ⟨sb, db, eb, mb, rb, m, fr, x1, rfl, m1, m2, r1, r2, f1, s1⟩
  obtain ⟨V, hV⟩ := SV.made s1 (by omega) r1 (by omega)
  have S1 := Lib.hid hV
  have F1 := Lib.hid f1
  clear s1 hV f1
  go_wp2_with fail
  have hb2 : Below w1.heap.size w1 (w1.alloc (.cells #[.pointer (some ⟨db, 0, none⟩), .pointer (some ⟨sb, 0, none⟩), .pointer (some ⟨mb, 0, none⟩), .pointer (some ⟨rb, 0, none⟩)] 29)) := (Below.refl _ w1).alloc (Nat.le_refl _) _
  have f2 : Fr x1 (paint x1 w1.heap.size 45) (fun e => e = 45) w1 (w1.alloc (.cells #[.pointer (some ⟨db, 0, none⟩), .pointer (some ⟨sb, 0, none⟩), .pointer (some ⟨mb, 0, none⟩), .pointer (some ⟨rb, 0, none⟩)] 29)) := Fr.of_below hb2 rfl
  have g2 := World.alloc_heap_new w1 (.cells #[.pointer (some ⟨db, 0, none⟩), .pointer (some ⟨sb, 0, none⟩), .pointer (some ⟨mb, 0, none⟩), .pointer (some ⟨rb, 0, none⟩)] 29)
  have X2 : Hid (paint x1 w1.heap.size 45 w1.heap.size = 45) := Lib.hid (paint_new (Nat.le_refl _))
  have S2 := Lib.hid (S1.out.frame f2 (fun e he hc => by subst hc; exact nPC (by omega) (PD_PC 0 20 _ he)))
  have F2 := Lib.hid ((F1.out.mono (D := AQ) (fun e he => by rcases he with he | he | he; exact PC_AQ e he; (have := he.2; show e ≤ 95; omega); (show e ≤ 95; omega))).trans (f2.mono (fun e he => by show e ≤ 95; omega)))
  have G2 := Lib.hid g2
  clear hb2 f2 g2 S1 F1
  generalize World.alloc w1 _ = W2 at X2 S2 F2 G2 ⊢
  generalize paint x1 w1.heap.size 45 = x2 at X2 S2 F2
  generalize w1.heap.size = gb at X2 G2 ⊢
  refine (Create_any x2 50 0 20 W2 sb db eb 0 m 4 2 V S2.out (by omega) (by omega)).mono ?_
  rintro e w3 ⟨wb, pb, xb, qb, x3, rfl, f3, i3, b3, -⟩
  have G3 := Lib.hid ((b3.block _ (lt_of_block G2.out)).trans G2.out)
  have X3 := Lib.hid ((f3.col _ (lt_of_block G2.out)).trans X2.out)
  have F3 := Lib.hid (F2.out.trans (f3.mono (D := AQ) (fun e he => by have := he.2; show e ≤ 95; omega)))
  have Z3 : Hid (WZ x3 50 0 20 w3 wb sb db eb 0 m 4 2 V [] w3) := Lib.hid (WZ.start (WS.start i3 (S2.out.frame f3 PD_VC) VC_PC))
  clear f3 i3 b3 G2 X2 F2 S2
  go_wp2_with fail
  refine (Fill_any w3 ⟨#[97]⟩ 600 (by decide) (by omega)).mono ?_
  rintro e w4 ⟨rfl, rfl⟩
  have TS := fillS_size ⟨#[97]⟩ 600
  have TL := Lib.hid (fill_a 600)
  generalize fillS ⟨#[97]⟩ 600 = t at TS TL ⊢
  go_wp2_with fail
  refine (Write_any x3 50 0 20 w3 wb sb db eb 0 m 4 2 V [] t w3 Z3.out (by omega) (.inl (by omega)) (fun j hj => by rw [List.length_nil, Nat.zero_div] at hj; omega) (by omega) (by omega) (by rw [List.length_nil]; omega) (by omega) (onS_append [] _)).mono ?_
  rintro e w5 ⟨rfl, V5, z5, ct5, -⟩
  rw [List.nil_append, TL.out] at z5 ct5
  have Z5 := Lib.hid z5
  have CT5 := Lib.hid ct5
  clear z5 ct5 Z3
  go_wp2_with fail
  have hb1 : (⟨#[98]⟩ : ByteArray).size = 1 := rfl
  refine (Write_any x3 50 0 20 w3 wb sb db eb (0 + 200) m 4 2 V5 (List.replicate 600 97) ⟨#[98]⟩ w5 Z5.out (by omega) (.inl (by omega)) CT5.out (by omega) (by omega) (by rw [List.length_replicate, hb1]; omega) (by omega) (onS_append _ _)).mono ?_
  rintro e w6 ⟨rfl, V6, z6, ct6, -⟩
  have hT : (⟨#[98]⟩ : ByteArray).data.toList = [98] := rfl
  rw [hT] at z6 ct6
  obtain ⟨T, hTT⟩ : ∃ T : List UInt8, List.replicate 600 97 ++ [98] = T := ⟨_, rfl⟩
  have hTl : T.length = 601 := by rw [← hTT, List.length_append, List.length_replicate]; rfl
  have TD : Hid ((T.drop 599).take 2 = [97, 98]) := Lib.hid (by rw [← hTT]; decide +kernel)
  rw [hTT] at z6 ct6
  have Z6 := Lib.hid z6
  have CT6 := Lib.hid ct6
  have HTL := Lib.hid hTl
  clear z6 ct6 Z5 CT5 hTT hT hb1
  go_wp2_with fail
  refine (Close_any x3 50 0 20 w3 wb sb db eb (0 + 200 + 200) m 4 2 V6 T w6 Z6.out (by omega) (.inl (by omega)) CT6.out (by omega) (by omega) (by omega) (by omega)).mono ?_
  rintro e w7 ⟨rfl, V7, rv, pb7, xb7, qb7, R7, at7, ws7, cl7, -⟩
  obtain ⟨-, x7, f7, -, s7⟩ := ws7
  have hne : ¬ WC 0 20 50 45 := by rintro (q | q); exact nPC (by omega) q; exact absurd q.1 (by omega)
  have g7 := (f7.old _ (lt_of_block G3.out) (by rw [X3.out]; exact hne)).trans G3.out
  have k1 : w7.cell? ⟨gb, 1, none⟩ = some (.pointer (some ⟨sb, 0, none⟩)) := by rw [cell_of_row _ _ _ _ _ _ g7]; rfl
  have F7 := Lib.hid (F3.out.trans (f7.mono (D := AQ) (fun e he => by rcases he with he | he; exact PC_AQ e he; (have := he.2; show e ≤ 95; omega))))
  have S7 := Lib.hid s7
  have CL7 := Lib.hid cl7
  clear f7 s7 cl7 g7 hne Z6 CT6 F3 G3 X3
  obtain ⟨sn, hsn⟩ : ∃ sn, (onS 0 T).toNat = sn := ⟨_, rfl⟩
  have hsl : sn < 4294967296 := by have := (onS_U32 T).2; have := (onS_U32 T).1; omega
  have FT := Lib.hid CL7.out.foot
  rw [hsn, hTl] at FT
  go_wp2_with fail
  refine (Open_any x7 55 0 20 w7 sb db eb _ m 4 2 601 sn V7 S7.out.sq (.inl (by omega)) (nPC (by omega)) (by omega) (by omega) (by omega) FT.out (by omega) hsl).mono ?_
  rintro e w8 ⟨rb8, x8, rfl, f8, ri8, xr8, -, s8⟩
  have F8 := Lib.hid (F7.out.trans (f8.mono (D := AQ) (fun e he => by rcases he with he | he; exact PC_AQ e he; (show e ≤ 95; omega))))
  have S8 := Lib.hid s8
  have R8 := Lib.hid ri8
  have XR := Lib.hid xr8
  clear f8 ri8 xr8 s8 k1 S7 F7
  go_wp2_with fail
  refine (ReadAt_any x8 56 0 20 w8 rb8 sb db eb _ m 4 2 601 sn V7 S8.out R8.out (.inl (by omega)) (nPC (by omega)) (nPC (by omega)) (by rw [XR.out]; exact nPC (by omega)) (by rw [XR.out]; exact ⟨by omega, by omega⟩) (by omega) (by omega) (by omega) 599 2 (by omega) (by omega)).mono ?_
  rintro e w9 ⟨rfl, x9, f9, s9⟩
  have q9 := readL_of CL7.out.bytes (off := 599) (n := 2) (by omega)
  rw [TD.out] at q9
  rw [q9]
  have R9 : RI w9 rb8 sb 4 2 601 sn := R8.out.frame (f9.old _ (lt_of_block R8.out) (by rw [XR.out]; rintro (q | q | q); exact nPC (by omega) q; omega; omega))
  have F9 := Lib.hid (F8.out.trans (f9.mono (D := AQ) (fun e he => by rcases he with he | he | he; exact PC_AQ e he; (show e ≤ 95; omega); (show e ≤ 95; omega))))
  have LN := Lib.hid (Length_any w9 rb8 sb 4 2 601 sn R9)
  clear q9 f9 s9 R9 F8 S8 R8 XR FT CL7
  go_wp2_with fail
  refine LN.out.mono ?_
  rintro e w10 ⟨rfl, rfl⟩
  go_wp2_with fail
  go_ret
  exact ⟨rfl, F9.out.below_all (fun b _ hC => by have : (100 : Nat) ≤ 95 := hC; omega)⟩

end Go.Proofs.YtbgbomlmgkgkoaaGreat.st

namespace Go.Proofs.YtbgbomlmgkgkoaaGreat.st
open Go.RowKit Go.Proofs.YtbgbomlmgkgkoaaGreat.own Go.Proofs.YtbgbomlmgkgkoaaGreat.dv Go.Proofs.YtbgbomlmgkgkoaaGreat.po Go.Proofs.YtbgbomlmgkgkoaaGreat.arcI

set_option maxRecDepth 100000 in
theorem Blocks_any (w : World) (m n : Nat) (hm : 1 ≤ m ∧ m ≤ 8) (hn : n < 10 * (512 * m)) :
    Calls Tryz.prog 37 #[.int .i64 ((512 * m : Nat) : Int), .int .i64 (n : Int)] w fun e w' => e = .returned (.tuple #[.int .i64 (((n + 12 + 512 * m - 1) / (512 * m) : Nat) : Int), .int .i64 0]) ∧ w = w' := by
  have hmod : 512 * m % 512 = 0 := Nat.mul_mod_right _ _
  obtain ⟨sz, hsz⟩ : ∃ sz, 512 * m = sz := ⟨_, rfl⟩
  rw [hsz] at hn hmod ⊢
  have hs1 : 512 ≤ sz ∧ sz ≤ 4096 := by omega
  obtain ⟨k, hk⟩ : ∃ k, (n + 12 + sz - 1) / sz = k := ⟨_, rfl⟩
  have a1 : decide ((sz : Int) < 512) = false := decide_eq_false (by omega)
  have a2 : decide ((4096 : Int) < (sz : Int)) = false := decide_eq_false (by omega)
  have a3 : Int.tmod (sz : Int) 512 = 0 := by
    have := Int.ofNat_tmod sz 512
    rw [hmod] at this
    exact this.symm
  have a4 : decide ((n : Int) < 0) = false := decide_eq_false (by omega)
  have a5 : IntKind.i64.wrap (4096 * (sz : Int)) = 4096 * (sz : Int) := IntWalk.i64_in _ (by omega)
  have a6 : IntKind.i64.wrap (4096 * (sz : Int) - 12) = 4096 * (sz : Int) - 12 := IntWalk.i64_in _ (by omega)
  have a7 : decide (4096 * (sz : Int) - 12 < (n : Int)) = false := decide_eq_false (by omega)
  have b1 : IntKind.i64.wrap ((n : Int) + 12) = (n : Int) + 12 := IntWalk.i64_in _ (by omega)
  have b2 : IntKind.i64.wrap ((n : Int) + 12 + (sz : Int)) = (n : Int) + 12 + (sz : Int) := IntWalk.i64_in _ (by omega)
  have b3 : IntKind.i64.wrap ((n : Int) + 12 + (sz : Int) - 1) = (n : Int) + 12 + (sz : Int) - 1 := IntWalk.i64_in _ (by omega)
  have b4 : Int.tdiv ((n : Int) + 12 + (sz : Int) - 1) (sz : Int) = (k : Int) := by
    rw [show (n : Int) + 12 + (sz : Int) - 1 = ((n + 12 + sz - 1 : Nat) : Int) by omega, ← Int.ofNat_tdiv, hk]
  have hkl : k ≤ n + 12 + sz - 1 := by rw [← hk]; exact Nat.div_le_self _ _
  have b5 : IntKind.i64.wrap (k : Int) = (k : Int) := IntWalk.i64_in _ (by omega)
  have z0 : ¬ ((sz : Int) = 0) := by omega
  have z1 : ¬ (sz = 0) := by omega
  have HK := Lib.hid hk
  clear hk hsz hmod
  go_enter Tryz.func37, Tryz.ntmps37
  go_wp2_with fail
  refine bodyPost_ret (v := .tuple #[.int .i64 (k : Int), .int .i64 0]) (by simp [results, Tryz.f37, go_sem]) rfl ?_
  exact ⟨by rw [HK.out], rfl⟩

/-- what the law asks of the number of blocks -/
theorem blocks_of {n sz k : Nat} (hz : 512 ≤ sz) (hn : n < 10 * sz) (hk : (n + 12 + sz - 1) / sz = k) : 1 ≤ k ∧ k ≤ 11 ∧ n ≤ k * sz - 12 ∧ (k - 1) * sz - 12 < n + (if k = 1 then 1 else 0) := by
  have h1 : k * sz ≤ n + 12 + sz - 1 := by rw [← hk]; exact Nat.div_mul_le_self _ _
  have h2 : n + 12 + sz - 1 < k * sz + sz := by rw [← hk]; exact Nat.lt_div_mul_add (by omega)
  have hk1 : 1 ≤ k := by
    rcases Nat.eq_zero_or_pos k with h | h
    · subst h; omega
    · exact h
  have hk2 : k ≤ 11 := by
    rcases Nat.lt_or_ge k 12 with h | h
    · omega
    · have := Nat.mul_le_mul h (Nat.le_refl sz); omega
  obtain ⟨p, hp⟩ : ∃ p, (k - 1) * sz = p := ⟨_, rfl⟩
  have h3 : k * sz = p + sz := by
    obtain ⟨j, rfl⟩ : ∃ j, k = j + 1 := ⟨k - 1, by omega⟩
    rw [← hp, Nat.add_mul]; simp
  rw [hp]
  refine ⟨hk1, hk2, by omega, ?_⟩
  split
  · rename_i h; subst h; simp at hp; omega
  · rename_i h
    have : sz ≤ p := by
      rw [← hp]
      have := Nat.mul_le_mul (show 1 ≤ k - 1 by omega) (Nat.le_refl sz)
      omega
    omega

theorem PD_VCg {v0 : Nat} (h : 23 ≤ v0) : ∀ e, PD 0 20 e → ¬ VC v0 e := fun e he hc => by
  have b := hc.1
  rcases he with he | he
  · have := he.1.2; omega
  · have := he.2; omega
theorem VC_PCg {v0 : Nat} (h : 23 ≤ v0) : ∀ e, VC v0 e → ¬ PC 0 20 e := fun e hc he => by
  have b := hc.1
  rcases he with he | he
  · have := he.2; omega
  · have := he.2; omega
theorem modP_is (m : Int) (P : Nat) (h1 : 1 ≤ P) (h2 : P ≤ 1099511627776) : ∃ z : Nat, (wrap64 (m.tmod (P : Int) + (P : Int))).tmod (P : Int) = z ∧ z < P := by
  have q1 : -(P : Int) < m.tmod (P : Int) := Int.lt_tmod_of_pos m (by omega)
  have q2 : m.tmod (P : Int) < (P : Int) := Int.tmod_lt_of_pos m (by omega)
  generalize m.tmod (P : Int) = r at q1 q2 ⊢
  rw [IntWalk.wrap64_in (r + (P : Int)) (by omega), Int.tmod_eq_emod_of_nonneg (by omega)]
  have q3 := Int.emod_nonneg (r + (P : Int)) (show (P : Int) ≠ 0 by omega)
  have q4 := Int.emod_lt_of_pos (r + (P : Int)) (show (0 : Int) < (P : Int) by omega)
  exact ⟨((r + (P : Int)) % (P : Int)).toNat, by omega, by omega⟩


end Go.Proofs.YtbgbomlmgkgkoaaGreat.st

namespace Go.Proofs.YtbgbomlmgkgkoaaGreat.st
open Go.RowKit Go.Proofs.YtbgbomlmgkgkoaaGreat.own Go.Proofs.YtbgbomlmgkgkoaaGreat.dv Go.Proofs.YtbgbomlmgkgkoaaGreat.po Go.Proofs.YtbgbomlmgkgkoaaGreat.arcI

/-! ### what pieces say -/
def repL (l : List UInt8) : Nat → List UInt8
  | 0 => []
  | k + 1 => repL l k ++ l
theorem repL_len (l : List UInt8) : ∀ k, (repL l k).length = k * l.length
  | 0 => by rw [Nat.zero_mul]; rfl
  | k + 1 => by show (repL l k ++ l).length = _; rw [List.length_append, repL_len l k, Nat.add_mul, Nat.one_mul]
def pieceL (t : List UInt8) (m : Int) : List UInt8 := repL (t.take 100) (m.tmod 30).toNat
theorem pieceL_len (t : List UInt8) (m : Int) : (pieceL t m).length ≤ 2900 := by
  unfold pieceL
  rw [repL_len, List.length_take]
  have h : m.tmod 30 < 30 := Int.tmod_lt_of_pos m (by omega)
  have := Nat.mul_le_mul (show (m.tmod 30).toNat ≤ 29 by omega) (Nat.min_le_left 100 t.length)
  omega
theorem ba_eq {a : ByteArray} {l : List UInt8} (h : a.data.toList = l) : a = ⟨l.toArray⟩ := by
  subst h
  cases a; simp
def catL (P : Nat → List UInt8) : Nat → List UInt8
  | 0 => []
  | k + 1 => catL P k ++ P k
theorem catL_pre (P : Nat → List UInt8) (i : Nat) : ∀ d, ∃ r, catL P (i + d) = catL P i ++ r
  | 0 => ⟨[], by rw [List.append_nil]; rfl⟩
  | d + 1 => by
    obtain ⟨r, hr⟩ := catL_pre P i d
    exact ⟨r ++ P (i + d), by show catL P (i + d) ++ P (i + d) = _; rw [hr, List.append_assoc]⟩
theorem catL_same {P : Nat → List UInt8} {i k : Nat} (h : i ≤ k) (hl : (catL P k).length ≤ (catL P i).length) : catL P i = catL P k := by
  obtain ⟨r, hr⟩ := catL_pre P i (k - i)
  rw [show i + (k - i) = k by omega] at hr
  rw [hr, List.length_append] at hl
  have : r = [] := List.eq_nil_of_length_eq_zero (by omega)
  rw [hr, this, List.append_nil]
theorem catL_le {P : Nat → List UInt8} {i k : Nat} (h : i ≤ k) : (catL P i).length ≤ (catL P k).length := by
  obtain ⟨r, hr⟩ := catL_pre P i (k - i)
  rw [show i + (k - i) = k by omega] at hr
  rw [hr, List.length_append]; omega

set_option maxRecDepth 100000 in
theorem ptext_any (w : World) (t : ByteArray) (m : Int) (ht : t.size ≤ 9223372036854775807) :
    Calls Tryz.prog 36 #[.agg #[.string t, .int .i64 m]] w fun e w' => e = .returned (.string ⟨(pieceL t.data.toList m).toArray⟩) ∧ Below w.heap.size w w' := by
  obtain ⟨d, hd⟩ : ∃ d, m.tmod 30 = d := ⟨_, rfl⟩
  have h1 : d < 30 := by rw [← hd]; exact Int.tmod_lt_of_pos m (by omega)
  obtain ⟨z, hz⟩ : ∃ z, min t.size 100 = z := ⟨_, rfl⟩
  obtain ⟨u, hu⟩ : ∃ u, t.extract 0 z = u := ⟨_, rfl⟩
  have UL : Hid (u.data.toList = t.data.toList.take 100) := Lib.hid (by
    have hl : t.data.toList.length = t.size := Array.length_toList
    rw [← hu, extract_list, List.drop_zero, Nat.sub_zero, ← hz]
    rcases Nat.le_total t.size 100 with h | h
    · rw [Nat.min_eq_left h, List.take_of_length_le (by omega), List.take_of_length_le (by omega)]
    · rw [Nat.min_eq_right h])
  have hus : u.size ≤ 100 := by
    have hl : u.data.toList.length = u.size := Array.length_toList
    rw [← hl, UL.out, List.length_take]; omega
  have HD : Hid (pieceL t.data.toList m = repL u.data.toList d.toNat) := Lib.hid (by unfold pieceL; rw [hd, UL.out])
  have hzt : z ≤ t.size := by omega
  have hb0 : Hid (Below w.heap.size w (w.alloc (.cells #[.string t, .int .i64 m] 101))) := Lib.hid ((Below.refl _ w).alloc (Nat.le_refl _) _)
  have g0 := World.alloc_heap_new w (.cells #[.string t, .int .i64 m] 101)
  have k0 : (w.alloc (.cells #[.string t, .int .i64 m] 101)).cell? ⟨w.heap.size, 0, none⟩ = some (.string t) := by rw [cell_of_row _ _ _ _ _ _ g0]; rfl
  have k1 : (w.alloc (.cells #[.string t, .int .i64 m] 101)).cell? ⟨w.heap.size, 1, none⟩ = some (.int .i64 m) := by rw [cell_of_row _ _ _ _ _ _ g0]; rfl
  have HZ := Lib.hid hz
  have HDD := Lib.hid hd
  clear g0 hz hd
  go_enter Tryz.func36, Tryz.ntmps36
  go_upto_region 1 with fail
  generalize w.alloc _ = W1 at hb0 k0 k1 ⊢
  have HW1 := hb0
  go_wp2_with fail
  go_loopw [3, 4] (fun s i wr => ∃ k : Nat, i = .int .i64 (k : Int) ∧ ((k : Int) ≤ d ∨ k = 0) ∧ s = .string ⟨(repL u.data.toList k).toArray⟩ ∧ wr = W1) (fun _ i _ => (d - intOf i).toNat)
  case atStart => exact ⟨0, rfl, .inr rfl, rfl, rfl⟩
  case round =>
    obtain ⟨k, rfl, hk, rfl, rfl⟩ := hrel
    obtain ⟨S, hS⟩ : ∃ S : ByteArray, S = ⟨(repL u.data.toList k).toArray⟩ := ⟨_, rfl⟩
    have HS : Hid (S.data.toList = repL u.data.toList k) := Lib.hid (by rw [hS])
    have hSs : S.size ≤ 2900 := by
      have hl : S.data.toList.length = S.size := Array.length_toList
      have hl2 : u.data.toList.length = u.size := Array.length_toList
      rw [← hl, HS.out, repL_len, hl2]
      have := Nat.mul_le_mul (show k ≤ 29 by omega) hus
      omega
    have HSS := Lib.hid hS
    rw [← hS]
    clear hS
    have hdd := HDD.out
    by_cases hlt : (k : Int) < d
    · have hmin : (min (t.size : Int) 100).toNat = z := by have := HZ.out; omega
      have hcat : ¬ 9223372036854775807 < S.size + u.size := by omega
      have SU : Hid (S ++ u = ⟨(repL u.data.toList (k + 1)).toArray⟩) := Lib.hid (ba_eq (by
        rw [ByteArray.data_append, Array.toList_append, HS.out]; rfl))
      go_wp2_with fail
      exact ⟨⟨k + 1, by go_num, .inl (by omega), by rw [SU.out], trivial⟩, by simp [intOf]; omega⟩
    · have hdk : d.toNat = k := by omega
      go_wp2_with fail
      go_ret
      exact ⟨by rw [HD.out, hdk, ← HSS.out]; rfl, hb0.out⟩

theorem blocks_lt {L sz k b : Nat} (hz : 1 ≤ sz) (hk : (L + sz - 1) / sz = k) (hb : b < k) : b * sz < L := by
  have h1 : k * sz ≤ L + sz - 1 := by rw [← hk]; exact Nat.div_mul_le_self _ _
  have h2 := Nat.mul_le_mul (show b + 1 ≤ k by omega) (Nat.le_refl sz)
  rw [Nat.add_mul, Nat.one_mul] at h2
  omega
theorem blocks_ge {L sz k : Nat} (hz : 1 ≤ sz) (hk : (L + sz - 1) / sz = k) : L ≤ k * sz := by
  have h2 : L + sz - 1 < k * sz + sz := by rw [← hk]; exact Nat.lt_div_mul_add (by omega)
  omega
set_option maxRecDepth 100000 in
set_option maxHeartbeats 3200000 in
theorem Verify_any {Q : Sp → Dev → Prop} (x : Nat → Nat) (q0 c0 d0 : Nat) (w : World) (rb sb db eb N m st ln L S : Nat) (V : Int → ByteArray) (hs : SQ Q x c0 d0 w sb db eb N m V) (hri : RI w rb sb st ln L S) (hcd : c0 + 9 < d0 ∨ d0 + 2 < c0) (hq0 : ¬ PC c0 d0 q0) (hq1 : ¬ PC c0 d0 (q0 + 1)) (hxr : ¬ PC c0 d0 (x rb)) (hxq : x rb ≠ q0 ∧ x rb ≠ q0 + 1)
    (h1 : 1 ≤ ln) (h2 : st + ln ≤ 24) (hL : L ≤ ln * (512 * m) - 12) (hN : N + 8 * L + 8 < 1099511627776) :
    Calls Tryz.prog 14 #[.pointer (some ⟨rb, 0, none⟩)] w fun e w' => e = .returned (.int .i64 (if onS 0 (readL V st (512 * m) 0 L) = (S : Int) then 0 else 9)) ∧ ∃ x', Fr x x' (RC c0 d0 q0) w w' ∧ SQ Q x' c0 d0 w' sb db eb (N + 8 * L) m V := by
  have hm := hs.size
  have hmp : ln * (512 * m) ≤ 98304 := by have := Nat.mul_le_mul (show ln ≤ 24 by omega) (show 512 * m ≤ 4096 by omega); omega
  have S0 := Lib.hid hs
  have R0 := Lib.hid hri
  have SZ := Lib.hid hs.Size
  have HL := Lib.hid hL
  obtain ⟨sz, hsz⟩ : ∃ sz, 512 * m = sz := ⟨_, rfl⟩
  have HSZ := Lib.hid hsz
  have hsz1 : 512 ≤ sz ∧ sz ≤ 4096 := by omega
  rw [hsz] at hL hmp SZ ⊢
  have hL2 : L ≤ 98304 := by omega
  clear hs hri hsz hL hmp
  obtain ⟨c0', -, -, c3', c4', -⟩ := R0.out.cells
  obtain ⟨k, hk⟩ : ∃ k, (L + sz - 1) / sz = k := ⟨_, rfl⟩
  have hkl : k ≤ 98304 := by
    have q : k * sz ≤ L + sz - 1 := by rw [← hk]; exact Nat.div_mul_le_self _ _
    have q2 := Nat.mul_le_mul (Nat.le_refl k) hsz1.1
    omega
  have HB := Lib.hid (fun b (hb : b < k) => blocks_lt (by omega) hk hb)
  have HG := Lib.hid (blocks_ge (by omega) hk)
  have e1 : IntKind.i64.wrap ((L : Int) + (sz : Int)) = (L : Int) + (sz : Int) := IntWalk.i64_in _ (by omega)
  have e2 : IntKind.i64.wrap ((L : Int) + (sz : Int) - 1) = (L : Int) + (sz : Int) - 1 := IntWalk.i64_in _ (by omega)
  have e3 : Int.tdiv ((L : Int) + (sz : Int) - 1) (sz : Int) = (k : Int) := by
    rw [show (L : Int) + (sz : Int) - 1 = ((L + sz - 1 : Nat) : Int) by omega, ← Int.ofNat_tdiv, hk]
  have e4 : IntKind.i64.wrap (k : Int) = (k : Int) := IntWalk.i64_in _ (by omega)
  have z0 : ¬ ((sz : Int) = 0) := by omega
  have z1 : ¬ (sz = 0) := by omega
  have CRC := Lib.hid (Crc_any w ⟨#[]⟩ (by decide))
  clear hk
  go_enter Tryz.func14, Tryz.ntmps14
  go_wp2_with fail
  refine SZ.out.mono ?_
  rintro e w1 ⟨rfl, rfl⟩
  go_wp2_with fail
  refine CRC.out.mono ?_
  rintro e w1 ⟨rfl, hb1⟩
  have f1 : Fr x (paint x w.heap.size q0) (fun e => e = q0) w w1 := Fr.of_below hb1 rfl
  have S1 := Lib.hid (S0.out.frame f1 (fun e he hc => by subst hc; exact hq0 (PD_PC c0 d0 _ he)))
  have F1 := Lib.hid (f1.mono (D := RC c0 d0 q0) (fun e he => .inr (.inl he)))
  have R1 := Lib.hid (R0.out.frame (hb1.block _ (lt_of_block R0.out)))
  have XR : Hid (paint x w.heap.size q0 rb = x rb) := Lib.hid (paint_old (lt_of_block R0.out))
  obtain ⟨c0', -, -, c3', c4', -⟩ := R1.out.cells
  clear f1 hb1 S0 R0 SZ CRC
  generalize paint x w.heap.size q0 = x1 at S1 F1 XR
  go_wp2_with fail
  clear e1 e2 e3 e4 z0 z1 c0' c3' c4'
  go_loopw [4, 26] (fun s i wr => ∃ b : Nat, i = .int .i64 (b : Int) ∧ b ≤ k ∧ s = .int .u32 (onS 0 (readL V st sz 0 (min (b * sz) L))) ∧ ∃ x', Fr x x' (RC c0 d0 q0) w wr ∧ SQ Q x' c0 d0 wr sb db eb (N + 8 * min (b * sz) L) m V ∧ RI wr rb sb st ln L S ∧ x' rb = x rb) (fun _ i _ => k - (intOf i).toNat)
  case atStart => exact ⟨0, rfl, by omega, by rw [Nat.zero_mul, Nat.zero_min]; rfl, x1, F1.out, by rw [Nat.zero_mul, Nat.zero_min]; exact S1.out, R1.out, XR.out⟩
  case round =>
    clear S1 F1 R1 XR
    obtain ⟨b, rfl, hb, rfl, x2, hF, hS, hR, hX⟩ := hrel
    have F2 := Lib.hid hF
    have S2 := Lib.hid hS
    have R2 := Lib.hid hR
    have X2 := Lib.hid hX
    obtain ⟨c0', -, -, c3', c4', -⟩ := hR.cells
    clear hF hS hR hX
    by_cases hbk : b < k
    · obtain ⟨p, hp⟩ : ∃ p, b * sz = p := ⟨_, rfl⟩
      have hpl := HB.out b hbk
      rw [hp] at S2 hpl ⊢
      obtain ⟨n, hn⟩ : ∃ n, min sz (L - p) = n := ⟨_, rfl⟩
      have hmin : min p L = p := by omega
      rw [hmin] at S2 ⊢
      have HP : Hid (min ((b + 1) * sz) L = p + n) := Lib.hid (by rw [Nat.add_mul, Nat.one_mul, hp]; omega)
      have e1 : IntKind.i64.wrap ((b : Int) * (sz : Int)) = (p : Int) := by rw [← Int.natCast_mul, hp]; exact IntWalk.i64_in _ (by omega)
      have e2 : IntKind.i64.wrap ((L : Int) - (p : Int)) = ((L - p : Nat) : Int) := by rw [IntWalk.i64_in _ (by omega)]; omega
      have e3 : min (sz : Int) ((L - p : Nat) : Int) = (n : Int) := by omega
      have hpn : p + n ≤ L := by omega
      have RA := Lib.hid (ReadAt_any x2 q0 c0 d0 wr rb sb db eb (N + 8 * p) m st ln L S V S2.out R2.out hcd hq0 hq1 (by rw [X2.out]; exact hxr) (by rw [X2.out]; exact hxq) h1 h2 HL.out p n hpn (by omega))
      rw [HSZ.out] at RA
      clear hp hn hmin
      go_wp2_with fail
      refine RA.out.mono ?_
      rintro e w3 ⟨rfl, x3, f3, s3⟩
      have hnr : ¬ RC c0 d0 q0 (x2 rb) := by
        rw [X2.out]
        rintro (q | q | q)
        · exact hxr q
        · exact hxq.1 q
        · exact hxq.2 q
      have F3 := Lib.hid (F2.out.trans f3)
      have S3 := Lib.hid s3
      have R3 := Lib.hid (R2.out.frame (f3.old _ (lt_of_block R2.out) hnr))
      have X3 := Lib.hid ((f3.col _ (lt_of_block R2.out)).trans X2.out)
      obtain ⟨T, hT⟩ : ∃ T : ByteArray, T = ⟨(readL V st sz p n).toArray⟩ := ⟨_, rfl⟩
      have HT : Hid (T.data.toList = readL V st sz p n) := Lib.hid (by rw [hT])
      have hTs : T.size = n := by
        have q : T.data.toList.length = T.size := Array.length_toList
        rw [← q, HT.out, readL_len]
      rw [← hT]
      clear f3 s3 hnr RA F2 S2 R2 X2 e1 e2 e3 c0' c3' c4' hT
      go_wp2_with fail
      refine (On_any w3 _ T (by omega)).mono ?_
      rintro e w4 ⟨rfl, hb4⟩
      have f4 : Fr x3 (paint x3 w3.heap.size q0) (fun e => e = q0) w3 w4 := Fr.of_below hb4 rfl
      have F4 := Lib.hid (F3.out.trans (f4.mono (D := RC c0 d0 q0) (fun e he => .inr (.inl he))))
      have S4 := Lib.hid ((S3.out.frame f4 (fun e he hc => by subst hc; exact hq0 (PD_PC c0 d0 _ he))).mono (N' := N + 8 * (p + n)) (by omega))
      have R4 := Lib.hid (R3.out.frame (hb4.block _ (lt_of_block R3.out)))
      have X4 : Hid (paint x3 w3.heap.size q0 rb = x rb) := Lib.hid ((paint_old (lt_of_block R3.out)).trans X3.out)
      have SM : Hid (onS (onS 0 (readL V st sz 0 p)) T.data.toList = onS 0 (readL V st sz 0 (p + n))) := Lib.hid (by
        rw [HT.out, onS_append, readL_add V st sz 0 p n, Nat.zero_add])
      rw [SM.out]
      clear f4 hb4 F3 S3 R3 X3 SM
      go_wp2_with fail
      go_roundw
      case rel => exact ⟨b + 1, by go_num, by omega, by rw [HP.out], _, F4.out, by rw [HP.out]; exact S4.out, R4.out, X4.out⟩
      case measure => simp [intOf]; omega
    · obtain rfl : b = k := by omega
      have hmin : min (b * sz) L = L := by have := HG.out; omega
      rw [hmin] at S2 ⊢
      have U1 := (onS_U32 (readL V st sz 0 L)).1
      by_cases hsum : onS 0 (readL V st sz 0 L) = (S : Int)
      · have HSM := Lib.hid hsum
        go_wp2_with fail
        go_ret
        exact ⟨by first | rfl | (rw [if_pos HSM.out]; rfl), x2, F2.out, S2.out⟩
      · have HSM := Lib.hid hsum
        go_wp2_with fail
        go_ret
        exact ⟨by first | rfl | (rw [if_neg HSM.out]; rfl), x2, F2.out, S2.out⟩

set_option maxRecDepth 100000 in
set_option maxHeartbeats 1600000 in
theorem made2_any (x : Nat → Nat) (c0 d0 e0 : Nat) (hcd : c0 + 9 < d0 ∨ d0 + 2 < c0) (hde : d0 + 2 < e0 ∨ e0 + 1 < d0) (hce : c0 + 9 < e0 ∨ e0 + 1 < c0) (hq : ¬ PD c0 d0 45) (hq2 : ¬ EC e0 45) (w : World) (s0 f0 : Int) :
    Calls Tryz.prog 6 #[.int .i64 s0, .int .i64 f0] w fun e w' => ∃ sb db eb mb rb m fr x', e = .returned (.tuple #[.agg #[.pointer (some ⟨db, 0, none⟩), .pointer (some ⟨sb, 0, none⟩), .pointer (some ⟨mb, 0, none⟩), .pointer (some ⟨rb, 0, none⟩)], .bool true]) ∧
      1 ≤ m ∧ m ≤ 3 ∧ 1 ≤ fr ∧ fr ≤ 9 ∧ Fr x x' (MC c0 d0 e0) w w' ∧ SIs x' c0 d0 w' sb db eb (newP fr) (newD 24 m) 0 ∧ EIs x' e0 w' eb 2 (List.replicate 24 0) := by
  obtain ⟨m, hm, s1, s2⟩ := mod3_is s0
  obtain ⟨fr, hfr, t1, t2⟩ := mod9_is f0
  go_enter Tryz.func6, Tryz.ntmps6
  go_wp2_with fail
  simp only [hm, hfr]
  have hb0 : Below w.heap.size w (w.alloc (.cells #[.pointer none, .pointer none, .pointer none, .pointer none] 29)) := (Below.refl _ w).alloc (Nat.le_refl _) _
  have hf0 : Fr x (paint x w.heap.size 45) (MC c0 d0 e0) w (w.alloc (.cells #[.pointer none, .pointer none, .pointer none, .pointer none] 29)) := Fr.of_below hb0 (.inr (.inr rfl))
  have hxg : paint x w.heap.size 45 w.heap.size = 45 := paint_new (Nat.le_refl _)
  have hgb := World.alloc_heap_new w (.cells #[.pointer none, .pointer none, .pointer none, .pointer none] 29)
  have F0 := Lib.hid hf0
  have G0 := Lib.hid hgb
  clear hb0 hf0 hgb hm hfr
  generalize World.alloc w _ = W0 at F0 G0 ⊢
  generalize paint x w.heap.size 45 = x0 at F0 hxg
  have XG := Lib.hid hxg
  clear hxg
  refine (DNew_any x0 d0 W0 24 m (by omega) (by omega)).mono ?_
  rintro e w1 ⟨db, x1, rfl, f1, d1, b1⟩
  have F1 := Lib.hid (F0.out.trans (f1.mono (D := MC c0 d0 e0) (fun e he => .inl (.inr he))))
  have D1 := Lib.hid d1
  have G1 := Lib.hid ((b1.block _ (lt_of_block G0.out)).trans G0.out)
  have X1 := Lib.hid ((f1.col _ (lt_of_block G0.out)).trans XG.out)
  clear f1 d1 b1 F0 G0 XG
  go_wp2_with fail
  refine (ENew_any x1 e0 w1 2 24 (by omega) (by omega)).mono ?_
  rintro e w2 ⟨eb, x2, rfl, f2, e2, b2⟩
  have E2 := Lib.hid e2
  clear e2
  have D2 := Lib.hid (D1.out.frame f2 (fun e he hc => by have a := he.1; have a2 := he.2; have b := hc.1; have b2 := hc.2; omega))
  have F2 := Lib.hid (F1.out.trans (f2.mono (D := MC c0 d0 e0) (fun e he => .inr (.inl he))))
  have G2 := Lib.hid ((b2.block _ (lt_of_block G1.out)).trans G1.out)
  have X2 := Lib.hid ((f2.col _ (lt_of_block G1.out)).trans X1.out)
  clear f2 b2 F1 D1 G1 X1
  go_wp2_with fail
  refine (PNew_any x2 c0 db eb w2 fr t1 (by omega)).mono ?_
  rintro e w3 ⟨sb, cb, pm, x3, rfl, f3, t3, b3⟩
  have D3 := Lib.hid (D2.out.frame f3 (fun e he hc => by have a := he.1; have a2 := he.2; have b := hc.1.1; have b2 := hc.1.2; omega))
  have F3 := Lib.hid (F2.out.trans (f3.mono (D := MC c0 d0 e0) (fun e he => .inl (.inl he.1))))
  have E3 := Lib.hid (E2.out.frame f3 (fun e he hc => by have a := he.1; have a2 := he.2; have b := hc.1.1; have b2 := hc.1.2; omega))
  have S3 : Hid (SIs x3 c0 d0 w3 sb db eb (newP fr) (newD 24 m) 0) := Lib.hid ⟨⟨cb, pm, _, t3⟩, D3.out⟩
  have G3 := Lib.hid ((b3.block _ (lt_of_block G2.out)).trans G2.out)
  have X3 := Lib.hid ((f3.col _ (lt_of_block G2.out)).trans X2.out)
  clear f3 b3 t3 F2 D2 G2 X2 D3
  go_wp2_with fail
  refine (rnew04_any w3 m (by omega)).mono ?_
  rintro e w4 ⟨mb, rfl, b4⟩
  have B4 := Lib.hid b4
  clear b4
  go_wp2_with fail
  refine (rnew06_any w4).mono ?_
  rintro e w5 ⟨nb, rfl, b5⟩
  have B5 := Lib.hid (B4.out.trans (b5.mono B4.out.size))
  clear b5 B4
  go_wp2_with fail
  refine (rnew10_any w5 fr t1 (by omega) mb nb).mono ?_
  rintro e w6 ⟨rb, rfl, b6⟩
  have B6 := Lib.hid (B5.out.trans (b6.mono B5.out.size))
  clear b6 B5
  have G6 : w6.heap[w.heap.size]? = _ := (B6.out.block _ (lt_of_block G3.out)).trans G3.out
  have F6 : Fr x3 (paint x3 w3.heap.size 45) (fun e => e = 45) w3 w6 := Fr.of_below B6.out rfl
  have X6 : paint x3 w3.heap.size 45 w.heap.size = 45 := (F6.col _ (lt_of_block G3.out)).trans X3.out
  have E6 := Lib.hid (E3.out.frame F6 (fun e he hc => by subst hc; exact hq2 he))
  have S6 := Lib.hid (S3.out.frame F6 (fun e he hc => by subst hc; exact hq he))
  have FF := Lib.hid (F3.out.trans (F6.mono (D := MC c0 d0 e0) (fun e he => .inr (.inr he))))
  have k0 : w6.cell? ⟨w.heap.size, 0, none⟩ = some (.pointer none) := by rw [cell_of_row _ _ _ _ _ _ G6]; rfl
  have k1 : w6.cell? ⟨w.heap.size, 1, none⟩ = some (.pointer none) := by rw [cell_of_row _ _ _ _ _ _ G6]; rfl
  have k2 : w6.cell? ⟨w.heap.size, 2, none⟩ = some (.pointer none) := by rw [cell_of_row _ _ _ _ _ _ G6]; rfl
  have k3 : w6.cell? ⟨w.heap.size, 3, none⟩ = some (.pointer none) := by rw [cell_of_row _ _ _ _ _ _ G6]; rfl
  have kf : ∀ j, w6.frozen? ⟨w.heap.size, j, none⟩ = false := fun j => frozen_of_row _ _ _ _ _ G6
  have kf0 := kf 0
  have kf1 := kf 1
  have kf2 := kf 2
  have kf3 := kf 3
  have G6 := Lib.hid G6
  have X6 := Lib.hid X6
  clear kf F6 G3 X3 F3 S3 B6
  go_wp2_with fail
  refine bodyPost_ret (v := .tuple #[.agg #[.pointer (some ⟨db, 0, none⟩), .pointer (some ⟨sb, 0, none⟩), .pointer (some ⟨mb, 0, none⟩), .pointer (some ⟨rb, 0, none⟩)], .bool true]) (by simp [results, Tryz.f6, go_sem, k0, k1, k2, k3]) rfl ?_
  have f7 : Fr (paint x3 w3.heap.size 45) (paint x3 w3.heap.size 45) (fun e => e = 45) w6 ((((w6.setCell ⟨w.heap.size, 0, none⟩ (.pointer (some ⟨db, 0, none⟩))).setCell ⟨w.heap.size, 1, none⟩ (.pointer (some ⟨sb, 0, none⟩))).setCell ⟨w.heap.size, 2, none⟩ (.pointer (some ⟨mb, 0, none⟩))).setCell ⟨w.heap.size, 3, none⟩ (.pointer (some ⟨rb, 0, none⟩))) := Fr.same rfl rfl rfl (by simp) (fun b _ hC => by
    have hne : b ≠ w.heap.size := by rintro rfl; exact hC X6.out
    rw [Below.heap_setCell _ _ _ _ hne, Below.heap_setCell _ _ _ _ hne, Below.heap_setCell _ _ _ _ hne, Below.heap_setCell _ _ _ _ hne])
  exact ⟨sb, db, eb, mb, rb, m, fr, _, rfl, s1, s2, t1, t2, FF.out.trans (f7.mono (fun e he => .inr (.inr he))), S6.out.frame f7 (fun e he hc => by subst hc; exact hq he), E6.out.frame f7 (fun e he hc => by subst hc; exact hq2 he)⟩

end Go.Proofs.YtbgbomlmgkgkoaaGreat.st

namespace Go.Proofs.YtbgbomlmgkgkoaaGreat.st
open Go.RowKit Go.Proofs.YtbgbomlmgkgkoaaGreat.own Go.Proofs.YtbgbomlmgkgkoaaGreat.dv Go.Proofs.YtbgbomlmgkgkoaaGreat.po Go.Proofs.YtbgbomlmgkgkoaaGreat.arcI Go.Proofs.YtbgbomlmgkgkoaaGreat.vc

/-- no page waits to be written, and the device has what the blocks have -/
def QV (V : Int → ByteArray) (A : Sp) (D : Dev) : Prop := (∀ k p, A.pg k = some p → p.dirty = false) ∧ D.cache = [] ∧ ∀ k, D.now k = V k
theorem evict_clean (B : Sp) (D : Dev) (g : Int) (h : ∀ k p, B.pg k = some p → p.dirty = false) : (evictS B D g).2 = D ∧ ∀ k p, (evictS B D g).1.pg k = some p → p.dirty = false := by
  unfold evictS
  rcases hg : B.pg g with _ | p
  · exact ⟨rfl, h⟩
  · have hd := h g p hg
    refine ⟨?_, fun k q hq => ?_⟩
    · show (if p.dirty = true then _ else D) = D
      rw [if_neg (by rw [hd]; decide)]
    · have hq : arcI.updP B.pg g none k = some q := hq
      by_cases hk : k = g
      · subst hk; rw [arcI.updP_same] at hq; cases hq
      · rw [arcI.updP_other _ _ hk] at hq; exact h k q hq
theorem gone_clean (A : Sp) (D : Dev) (a : arcI.St) (gn : Option Int) (h : ∀ k p, A.pg k = some p → p.dirty = false) : (goneS A D a gn).2 = D ∧ ∀ k p, (goneS A D a gn).1.pg k = some p → p.dirty = false := by
  unfold goneS
  rcases gn with _ | g
  · exact ⟨rfl, h⟩
  · exact evict_clean { A with arc := a, misses := A.misses + 1 } D g h
theorem fetch_clean (A : Sp) (D : Dev) (no : Int) (h : ∀ k p, A.pg k = some p → p.dirty = false) :
    (∀ k p, (fetchS A D no false).1.1.pg k = some p → p.dirty = false) ∧ (fetchS A D no false).1.2.cache = D.cache ∧ ∀ k, (fetchS A D no false).1.2.now k = D.now k := by
  unfold fetchS
  split
  · split
    · exact ⟨h, rfl, fun _ => rfl⟩
    · unfold missS
      have g := gone_clean A D (touchS A.arc no).1 (touchS A.arc no).2.2.1 h
      generalize goneS A D (touchS A.arc no).1 (touchS A.arc no).2.2.1 = r at g ⊢
      obtain ⟨B, E⟩ := r
      obtain ⟨rfl, hB⟩ := g
      refine ⟨fun k p hp => ?_, rfl, fun k => rfl⟩
      have hp : arcI.updP B.pg no (some ⟨_, false, 0⟩) k = some p := hp
      by_cases hk : k = no
      · subst hk; rw [arcI.updP_same] at hp; rw [← Option.some.inj hp]
      · rw [arcI.updP_other _ _ hk] at hp; exact hB k p hp
  · exact ⟨h, rfl, fun _ => rfl⟩
theorem QV_rd (V : Int → ByteArray) : RdQ (QV V) := ⟨fun A D no _ _ h => by
  obtain ⟨a, c, b⟩ := fetch_clean A D no h.1
  exact ⟨a, c.trans h.2.1, fun k => (b k).trans (h.2.2 k)⟩⟩
theorem vinv_cnt {s : Sp} {D : Dev} {m nb : Nat} (h : VInv s D m nb) : s.cnt ≤ 4096 := by
  rw [h.ok.cnt, heldL_len]
  have a := h.ok.arc.held
  have b := h.ok.arc.size.2
  omega
theorem vinv_flush {s : Sp} {D : Dev} {m nb : Nat} (h : VInv s D m nb) (ks : List Int) : VInv (stS s D ks).1 (stS s D ks).2.flush m nb ∧ ∀ k, cont (stS s D ks).1 (stS s D ks).2.flush k = cont s D k := by
  have w := stS_ok h.ok ks
  exact ⟨⟨flush_ok w.ok, w.nb.trans h.nb, w.ns.trans h.ns, fun k => by rw [w.arc]; exact h.pins k, w.pinned.trans h.pinned, w.most.trans h.most⟩, fun k => by rw [cont_flush]; exact w.cont k⟩
theorem SV.flush {x : Nat → Nat} {c0 d0 : Nat} {w : World} {sb db eb N m : Nat} {V : Int → ByteArray} (h : SV x c0 d0 w sb db eb N m V) (hcd : c0 + 9 < d0 ∨ d0 + 2 < c0) (hN : N + 10000 < 1099511627776) :
    Calls Tryz.prog 9 #[.pointer (some ⟨sb, 0, none⟩)] w fun e w' => e = .returned (.int .i64 0) ∧ ∃ x', Fr x x' (PC c0 d0) w w' ∧ SQ (QV V) x' c0 d0 w' sb db eb (N + 9000) m V := by
  obtain ⟨A, D, hS, hI, hV⟩ := h
  have hc := vinv_cnt hI
  refine (SFlush_any x c0 d0 sb db eb A D N w hS hI.ok hcd (by omega)).mono ?_
  rintro e w' ⟨rfl, ks, hks, x', f, s⟩
  have I := vinv_flush hI ks
  have cl : ∀ k p, (stS A D ks).1.pg k = some p → p.dirty = false := fun k p hp => by
    have hsm := (stS_ok hI.ok ks).some_ k
    rw [hp] at hsm
    have hk : k ∈ ks := (hks k).2 ⟨by
      obtain ⟨q, hq⟩ := Option.isSome_iff_exists.1 hsm.symm
      have hkey := hI.ok.key k q hq
      have := hI.ok.dev.blocks
      exact WalkArith.wf_i64 (by omega), hsm.symm⟩
    exact stS_clean hI.ok ks k p hk hp
  refine ⟨rfl, x', f, QV_rd V, _, _, s.mono (by omega), I.1, fun k => by rw [I.2 k, hV k], cl, rfl, fun k => ?_⟩
  rw [← hV k, ← I.2 k]
  unfold cont
  rcases hp : (stS A D ks).1.pg k with _ | p
  · rfl
  · exact (I.1.ok.clean k p hp (cl k p hp)).symm

/-- a second space over the same device: all is read by it -/
theorem SQ.second {x : Nat → Nat} {c0 c1 d0 : Nat} {w : World} {sb db eb N m : Nat} {V : Int → ByteArray} (h : SQ (QV V) x c0 d0 w sb db eb N m V) {s2 cb pm eb2 fr N2 : Nat} {blk : Int → Nat} (t : TI x c1 w s2 db eb2 cb pm blk (newP fr) N2) (h1 : 1 ≤ fr) (h2 : fr ≤ 1024) (hN : N2 ≤ N) :
    SQ (QV V) x c1 d0 w s2 db eb2 N m V := by
  obtain ⟨q, A, D, ⟨-, d⟩, hI, hV, hq⟩ := h
  refine ⟨q, newP fr, D, ⟨⟨cb, pm, blk, t.mono hN⟩, d⟩, ⟨newP_ok fr h1 (by omega) D hI.ok.dev hI.ok.up, hI.nb, hI.ns, fun _ => rfl, rfl, rfl⟩, fun k => ?_, (fun k p hp => by cases hp), hq.2⟩
  show D.now k = V k
  exact hq.2.2 k

/-- a place behind the end is refused -/
theorem ReadAt_end (w : World) (rb sb st ln L S : Nat) (h : RI w rb sb st ln L S) (hL : L ≤ 98304) :
    Calls Tryz.prog 15 #[.pointer (some ⟨rb, 0, none⟩), .int .i64 (L : Int), .int .i64 1] w fun e w' => e = .returned (.tuple #[.string ⟨#[]⟩, .int .i64 1]) ∧ w = w' := by
  obtain ⟨-, -, -, c3, -, -⟩ := h.cells
  clear h
  have e0 : decide ((L : Int) < 0) = false := decide_eq_false (by omega)
  have e1 : IntKind.i64.wrap ((L : Int) - (L : Int)) = 0 := by rw [Int.sub_self]; rfl
  go_enter Tryz.func15, Tryz.ntmps15
  go_wp2_with fail
  refine bodyPost_ret (v := .tuple #[.string ⟨#[]⟩, .int .i64 1]) (by simp [results, Tryz.f15, go_sem]) rfl ?_
  exact ⟨rfl, rfl⟩

end Go.Proofs.YtbgbomlmgkgkoaaGreat.st
