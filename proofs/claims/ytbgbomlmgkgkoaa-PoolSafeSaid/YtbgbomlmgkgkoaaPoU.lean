/- Statement PoolSafe: the walk of the law. -/
import Derived.BigQuiet
import Derived.BigRegion
import Derived.Deep.CutRange
import Derived.Deep.CutBlock
import Derived.Deep.RegionLaw
import Derived.Deep.RegionHeld3
import Derived.Test.YtbgbomlmgkgkoaaPoT
namespace Go.Proofs.Ytbgbomlmgkgkoaa.arcI
open Go.RowKit Go.Proofs.Ytbgbomlmgkgkoaa.own Go.Proofs.Ytbgbomlmgkgkoaa.dv Go.Proofs.Ytbgbomlmgkgkoaa.po

set_option maxRecDepth 100000 in
set_option maxHeartbeats 25600000 in
theorem safe_walk (f0 : Int) (aT : Option Addr) (n c : Nat) (hn : n ≤ 9223372036854775807) (K M : Nat → Int) (T : Nat → ByteArray) (bT : Option Addr) (n2 c2 : Nat) (hn2 : n2 ≤ 9223372036854775807) (K2 M2 : Nat → Int) (T2 : Nat → ByteArray) (kv : Value) (tn mk : Int) (w : World) (hops : POps w aT n K M T) (hops2 : POps w bT n2 K2 M2 T2) (hkv : KArg w kv) :
    Calls Try.prog 4 #[.int .i64 f0, .slice aT n c, .slice bT n2 c2, .agg #[kv, .int .i64 tn, .int .u8 mk]] w fun e w' => e = .returned (.bool true) ∧ Below w.heap.size w w' := by
  have OPS := Lib.hid hops
  have OPS2 := Lib.hid hops2
  have KV := Lib.hid hkv
  obtain ⟨fr, hfr, s1, s2⟩ := fr12_is f0
  clear hops hops2 hkv
  go_enter Try.func4, Try.ntmps4
  go_wp2_with fail
  clear hfr
  have hb0 : Below w.heap.size w (w.alloc (.cells #[kv, .int .i64 tn, .int .u8 mk] 47)) := (Below.refl _ w).alloc (Nat.le_refl _) _
  have hf0 : Fr (fun _ => 100) (paint (fun _ => 100) w.heap.size 43) LS w (w.alloc (.cells #[kv, .int .i64 tn, .int .u8 mk] 47)) := Fr.of_below hb0 (show (43 : Nat) ≠ 100 by omega)
  have hxb : paint (fun _ => 100) w.heap.size 43 w.heap.size = 43 := paint_new (Nat.le_refl _)
  have hgb := World.alloc_heap_new w (.cells #[kv, .int .i64 tn, .int .u8 mk] 47)
  have hsz0 : (w.alloc (.cells #[kv, .int .i64 tn, .int .u8 mk] 47)).heap.size = w.heap.size + 1 := by simp
  have F0 := Lib.hid hf0
  have G0 := Lib.hid hgb
  have XB := Lib.hid hxb
  clear hb0 hf0 hgb hxb
  rw [← hsz0]
  have SZ0 := Lib.hid hsz0
  clear hsz0
  generalize paint (fun _ => 100) w.heap.size 43 = x0 at F0 XB
  generalize hbx : w.heap.size = bx at G0 XB SZ0 ⊢
  generalize World.alloc w _ = W0 at F0 G0 SZ0 ⊢
  have hb1 : Below W0.heap.size W0 (W0.alloc (.cells #[.int .i64 24, .int .i64 2] 29)) := (Below.refl _ _).alloc (Nat.le_refl _) _
  have hf1 : Fr x0 (paint x0 W0.heap.size 47) LS W0 (W0.alloc (.cells #[.int .i64 24, .int .i64 2] 29)) := Fr.of_below hb1 (show (47 : Nat) ≠ 100 by omega)
  have lb0 := lt_of_block G0.out
  have F1 := Lib.hid (F0.out.trans hf1)
  have G1 : Hid ((W0.alloc (.cells #[.int .i64 24, .int .i64 2] 29)).heap[bx]? = some (.cells #[kv, .int .i64 tn, .int .u8 mk] 47 (0, 0))) := Lib.hid ((hb1.block _ lb0).trans G0.out)
  have XB1 : Hid (paint x0 W0.heap.size 47 bx = 43) := Lib.hid (by rw [paint_old lb0]; exact XB.out)
  have XG : Hid (paint x0 W0.heap.size 47 W0.heap.size = 47) := Lib.hid (paint_new (Nat.le_refl _))
  have GG := Lib.hid (World.alloc_heap_new W0 (.cells #[.int .i64 24, .int .i64 2] 29))
  clear hb1 hf1 lb0 F0 G0 XB
  generalize paint x0 W0.heap.size 47 = x1 at F1 XB1 XG
  generalize World.alloc W0 _ = W1 at F1 G1 GG ⊢
  generalize W0.heap.size = gb at XG GG SZ0 ⊢
  refine (space_gen x1 0 20 30 (.inl (by omega)) (.inl (by omega)) W1 2 fr s1 (by omega) (by omega)).mono ?_
  rintro e w2 ⟨sa, da, ea, x2, rfl, f2, h2, -⟩
  have LSP : ∀ e, SPC 0 20 30 e → LS e := fun e he => by
    show e ≠ 100
    rcases he with he | he | he
    · rcases he with he | he
      · have := he.2; omega
      · have := he.2; omega
    · have := he.2; omega
    · omega
  have NSP : ∀ e, (e = 43 ∨ e = 47) → ¬ SPC 0 20 30 e := fun e he hc => by
    rcases hc with hc | hc | hc
    · rcases hc with hc | hc
      · have := hc.2; omega
      · have := hc.2; omega
    · have := hc.2; omega
    · omega
  have g2 : w2.heap[gb]? = some (.cells #[.int .i64 24, .int .i64 2] 29 (0, 0)) := (f2.old _ (lt_of_block GG.out) (by rw [XG.out]; exact NSP _ (.inr rfl))).trans GG.out
  have F2 := Lib.hid (F1.out.trans (f2.mono LSP))
  have G2 := Lib.hid ((f2.old _ (lt_of_block G1.out) (by rw [XB1.out]; exact NSP _ (.inl rfl))).trans G1.out)
  have XB2 := Lib.hid ((f2.col _ (lt_of_block G1.out)).trans XB1.out)
  have H2 := Lib.hid h2
  clear f2 h2 g2 F1 G1 XB1 XG GG LSP NSP
  go_wp2_with fail
  refine (awake_any w2).mono ?_
  rintro e w3 ⟨rfl, hb3⟩
  have L0 : Hid (SF w sa da ea w3.heap.size bx kv tn mk 0 (paint (paint x2 w2.heap.size 45) w3.heap.size 46) (newP fr) (newD 24 2) (fun _ => ⟨#[]⟩) (w3.alloc (.cells (List.replicate 24 (Value.string ⟨#[]⟩)).toArray 48))) := Lib.hid (by
    have f3 : Fr x2 (paint x2 w2.heap.size 45) LS w2 w3 := Fr.of_below hb3 (show (45 : Nat) ≠ 100 by omega)
    have a3 := H2.out.below hb3 (x' := paint x2 w2.heap.size 45) (fun b hb => paint_old hb)
    have hb4 : Below w3.heap.size w3 (w3.alloc (.cells (List.replicate 24 (Value.string ⟨#[]⟩)).toArray 48)) := (Below.refl _ _).alloc (Nat.le_refl _) _
    have f4 : Fr (paint x2 w2.heap.size 45) (paint (paint x2 w2.heap.size 45) w3.heap.size 46) LS w3 (w3.alloc (.cells (List.replicate 24 (Value.string ⟨#[]⟩)).toArray 48)) := Fr.of_below hb4 (show (46 : Nat) ≠ 100 by omega)
    have lb2 := lt_of_block G2.out
    have g3 := (hb3.block _ lb2).trans G2.out
    have lb3 := lt_of_block g3
    exact ⟨(F2.out.trans f3).trans f4, a3.below hb4 (fun b hb => paint_old hb), paint_new (Nat.le_refl _), ⟨_, World.alloc_heap_new w3 _, fun k hk => by rw [List.getElem?_toArray, List.getElem?_replicate, if_pos hk]⟩, by rw [paint_old lb3, paint_old lb2]; exact XB2.out, (hb4.block _ lb3).trans g3⟩)
  clear H2 F2 G2 XB2 hb3
  go_wp2_with fail
  have L1 : Hid (SF w sa da ea w3.heap.size bx kv tn mk 0 (paint (paint x2 w2.heap.size 45) w3.heap.size 46) (newP fr) (newD 24 2) (fun _ => ⟨#[]⟩) _) := L0
  simp only [List.replicate] at L1
  clear L0
  generalize paint (paint x2 w2.heap.size 45) w3.heap.size 46 = xq at L1
  generalize hib : w3.heap.size = ib at L1 ⊢
  generalize World.alloc w3 _ = w4 at L1 ⊢
  clear hib
  go_loopw [14] (fun i wr => ∃ k : Nat, i = .int .i64 k ∧ k ≤ 24 ∧ ∃ x V, SF w sa da ea ib bx kv tn mk 0 x (newP fr) (newD 24 2) V wr ∧ ∀ j, j < k → V j = zerosB 1024) (fun i _ => 24 - (intOf i).toNat)
  case atStart => exact ⟨0, rfl, by omega, xq, _, L1.out, fun j hj => absurd hj (Nat.not_lt_zero _)⟩
  case round => as_aux_lemma =>
    obtain ⟨k, rfl, hk, x, V, hS, hV⟩ := hrel
    by_cases hlt : k < 24
    · obtain ⟨kc, kf⟩ := hS.hi.cell hlt
      have S2 := Lib.hid (hS.set hlt (zerosB 1024))
      have HV := Lib.hid hV
      have FZ := Lib.hid (fill_zero 1024)
      clear hS hV
      go_wp2_with fail
      refine (Fill_any wr ⟨#[]⟩ 1024 (by decide) (by omega)).mono ?_
      rintro e w5 ⟨rfl, rfl⟩
      rw [FZ.out]
      go_wp2_with fail
      go_roundw
      case rel => exact ⟨k + 1, by go_num, by omega, x, _, S2.out, fun j hj => by
        show (if j = k then zerosB 1024 else V j) = _
        by_cases hjk : j = k
        · rw [if_pos hjk]
        · rw [if_neg hjk]; exact HV.out j (by omega)⟩
      case measure => simp [intOf]; omega
    · obtain rfl : k = 24 := by omega
      rw [show ((24 : Nat) : Int) = (24 : Int) from rfl]
      have B0 : Hid (SameInv (newP fr) (newD 24 2) 2 ∧ (∀ k : Nat, k < 24 → cont (newP fr) (newD 24 2) (k : Int) = V k) ∧ ∀ k, k < 24 → (V k).size = 1024) := Lib.hid (by
        have dk := newD_ok 24 2 (by omega) (by omega)
        exact ⟨⟨newP_ok fr s1 (by omega) _ dk rfl, rfl, rfl, fun _ => rfl, by show fr ≤ 30; omega⟩, fun k hk => by rw [hV k hk]; rfl, fun k hk => by rw [hV k hk]; exact zerosB_size _⟩)
      have S0 := Lib.hid hS
      clear hS hV
      generalize newP fr = pa at S0 B0
      generalize newD 24 2 = dn at S0 B0
      go_upto_block 2 with fail
      go_cut [] from 15 to 89 (fun wc => ∃ x A DA V, SF w sa da ea ib bx kv tn mk 600 x A DA V wc ∧ SameInv A DA 2 ∧ (∀ k : Nat, k < 24 → cont A DA (k : Int) = V k) ∧ ∀ k, k < 24 → (V k).size = 1024)
      case first => as_aux_lemma =>
        go_wp2_with fail
        go_loopw [15] (fun i wq => ∃ j : Nat, i = .int .i64 j ∧ j ≤ n ∧ j ≤ 60 ∧ ∃ x A DA V, SF w sa da ea ib bx kv tn mk (10 * j) x A DA V wq ∧ SameInv A DA 2 ∧ (∀ k : Nat, k < 24 → cont A DA (k : Int) = V k) ∧ ∀ k, k < 24 → (V k).size = 1024) (fun i _ => n - (intOf i).toNat)
        case atStart => exact ⟨0, rfl, by omega, by omega, x, pa, dn, V, S0.out, B0.out⟩
        case round => as_aux_lemma =>
          obtain ⟨j, rfl, hj1, hj2, x, A, DA, V, hS, hI, hV, hZ⟩ := hrel
          have SR := Lib.hid hS
          have IR := Lib.hid hI
          have VR := Lib.hid hV
          have ZR := Lib.hid hZ
          clear hS hI hV hZ
          by_cases hend : j < n ∧ j < 60
          · obtain ⟨hltn, hl2⟩ := hend
            obtain ⟨b, o, rfl, hbw, e0, e1, e3, hts⟩ := OPS.out j hltn
            have eqb : wr.heap[b]? = w.heap[b]? := SR.out.ff.old b hbw (by show ¬ ((100 : Nat) ≠ 100); omega)
            rw [← World.cell?_of_block (w := w) (w' := wr) eqb] at e1 e3
            obtain ⟨no, hno, hno2⟩ := n_is (M j)
            have hl3i : (j : Int) < 60 := by omega
            have h24 : (no : Int) < 24 := by omega
            have h0n : (0 : Int) ≤ (no : Int) := by omega
            have hnA : (no : Int) < DA.nb := by rw [IR.out.nb]; exact h24
            have hca : (0 : Nat) + 9 < 20 ∨ 20 + 2 < 0 := .inl (by omega)
            have UA : Hid ((fillS (T j) 1024).size = DA.size) := Lib.hid (by rw [fillS_size]; unfold Dev.size; rw [IR.out.ns])
            have FA := Lib.hid (IR.out.free (no : Int))
            clear eqb e0
            obtain ⟨kc, kf⟩ := SR.out.hi.cell hno2
            go_wp2_with fail
            clear hno
            refine (Fill_any wr (T j) 1024 hts (by omega)).mono ?_
            rintro e w5 ⟨rfl, rfl⟩
            have US := Lib.hid (fillS_size (T j) 1024)
            generalize fillS (T j) 1024 = u at UA US ⊢
            have S0 := Lib.hid (SR.out.set hno2 u)
            have IA := Lib.hid (IR.out.write h0n h24 UA.out)
            go_wp2_with fail
            refine (SWrite_any x 0 20 sa da ea A DA (10 * j) _ no u S0.out.a IR.out.ok hca h0n hnA (by omega) UA.out FA.out).mono ?_
            rintro e w6 ⟨rfl, x6, f6, h6⟩
            have S6 := Lib.hid ((S0.out.turn f6 h6).mono (show 10 * j + 8 ≤ 10 * (j + 1) by omega))
            clear f6 h6 kc kf
            go_wp2_with fail
            go_roundw
            case rel => exact ⟨j + 1, by go_num, by omega, by omega, x6, _, _, _, S6.out, IA.out.1, fun k hk => by
              rw [IA.out.2 k]
              by_cases hkn : k = no
              · subst hkn; rw [if_pos rfl, if_pos rfl]
              · rw [if_neg (by omega), if_neg hkn]; exact VR.out k hk, fun k hk => by
              show (if k = no then u else V k).size = 1024
              by_cases hkn : k = no
              · rw [if_pos hkn]; exact US.out
              · rw [if_neg hkn]; exact ZR.out k hk⟩
            case measure => simp [intOf]; omega
          · have hcases : ¬ j < n ∨ (j < n ∧ ¬ j < 60) := by omega
            have SE := Lib.hid (SR.out.mono (show 10 * j ≤ 600 by omega))
            clear hend
            obtain h1 | ⟨h1, h2⟩ := hcases
            · go_wp2_with fail
              go_meet
              case rel => exact ⟨x, A, DA, V, SE.out, IR.out, VR.out, ZR.out⟩
            · go_wp2_with fail
              go_meet
              case rel => exact ⟨x, A, DA, V, SE.out, IR.out, VR.out, ZR.out⟩
      case rest => as_aux_lemma =>
        obtain ⟨x, A, DA, V, hS, hI, hV, hZ⟩ := hcut
        have SR := Lib.hid hS
        have IR := Lib.hid hI
        have VR := Lib.hid hV
        have ZR := Lib.hid hZ
        have hcnt := hI.cnt
        have hca : (0 : Nat) + 9 < 20 ∨ 20 + 2 < 0 := .inl (by omega)
        have hmm := @run_makeMap Try.prog
        clear hS hI hV hZ
        go_wp2_with fail
        refine (SFlush_any x 0 20 sa da ea A DA 600 _ SR.out.a IR.out.ok hca (by omega)).mono ?_
        rintro e w6 ⟨rfl, ks, hks, x6, f6, h6⟩
        have S6 := Lib.hid ((SR.out.turn f6 h6).mono (show 600 + 2 * A.cnt + 2 ≤ 700 by omega))
        have I6 := Lib.hid ((IR.out.flush ks).1)
        have L6 := Lib.hid (flush_late IR.out.ok ks hks)
        clear f6 h6 hks
        have C6 : Hid ((stS A DA ks).2.flush.cache.length = 0) := Lib.hid rfl
        have K6 : Hid (∀ k : Nat, k < 24 → (stS A DA ks).2.flush.kept (k : Int) = V k) := Lib.hid (fun k hk => by rw [L6.out.2 k]; exact VR.out k hk)
        have L6 := Lib.hid L6.out.1
        generalize (stS A DA ks).1 = A6 at S6 I6 L6
        generalize (stS A DA ks).2.flush = D6 at S6 I6 L6 C6 K6
        go_wp2_with fail
        refine (Unflushed_any x6 20 da D6 700 w6 S6.out.a.2).mono ?_
        rintro e w7 ⟨rfl, rfl⟩
        rw [C6.out]
        go_upto_block 4 with fail
        have LM0 : Hid (SF w sa da ea ib bx kv tn mk 700 (paint x6 w6.heap.size 48) A6 D6 V (w6.alloc (.map #[] 0))) := Lib.hid (S6.out.below ((Below.refl _ w6).alloc (Nat.le_refl _) _) 48 (.inr (.inr (.inl rfl))))
        have LT0 : Hid (LAT (paint x6 w6.heap.size 48) (w6.alloc (.map #[] 0)) w6.heap.size 0 (fun _ => [])) := Lib.hid (LAT.made _ w6 (paint_new (Nat.le_refl _)))
        clear S6
        generalize paint x6 w6.heap.size 48 = x7 at LM0 LT0
        generalize hlm : w6.heap.size = lm at LT0 ⊢
        generalize World.alloc w6 _ = w7 at LM0 LT0 ⊢
        clear hlm
        go_cut [] from 18 to 135 (fun wc => ∃ x A DA L, SF w sa da ea ib bx kv tn mk 1300 x A DA V wc ∧ LAT x wc lm 60 L ∧ SameInv A DA 2 ∧ Later A DA L ∧ (∀ k : Nat, k < 24 → DA.kept (k : Int) = V k) ∧ ∀ k t, t ∈ L k → t.size = 1024)
        case first => as_aux_lemma =>
          go_wp2_with fail
          go_loopw [18] (fun i wq => ∃ j : Nat, i = .int .i64 j ∧ j ≤ n2 ∧ j ≤ 60 ∧ ∃ x A DA L, SF w sa da ea ib bx kv tn mk (700 + 10 * j) x A DA V wq ∧ LAT x wq lm j L ∧ SameInv A DA 2 ∧ Later A DA L ∧ (∀ k : Nat, k < 24 → DA.kept (k : Int) = V k) ∧ ∀ k t, t ∈ L k → t.size = 1024) (fun i _ => n2 - (intOf i).toNat)
          case atStart => exact ⟨0, rfl, by omega, by omega, x7, A6, D6, _, LM0.out, LT0.out, I6.out, L6.out, K6.out, fun k t ht => (by cases ht)⟩
          case round => as_aux_lemma =>
            obtain ⟨j, rfl, hj1, hj2, x, A, DA, L, hS, hT, hI, hL, hK, hZ⟩ := hrel
            have SR := Lib.hid hS
            have TR := Lib.hid hT
            have IR := Lib.hid hI
            have LR := Lib.hid hL
            have KR := Lib.hid hK
            have ZL := Lib.hid hZ
            clear hS hT hI hL hK hZ
            by_cases hend : j < n2 ∧ j < 60
            · obtain ⟨hltn, hl2⟩ := hend
              obtain ⟨b, o, rfl, hbw, e0, e1, e3, hts⟩ := OPS2.out j hltn
              have eqb : wr.heap[b]? = w.heap[b]? := SR.out.ff.old b hbw (by show ¬ ((100 : Nat) ≠ 100); omega)
              rw [← World.cell?_of_block (w := w) (w' := wr) eqb] at e1 e3
              obtain ⟨no, hno, hno2⟩ := n_is (M2 j)
              have hl3i : (j : Int) < 60 := by omega
              have h24 : (no : Int) < 24 := by omega
              have h0n : (0 : Int) ≤ (no : Int) := by omega
              have hnA : (no : Int) < DA.nb := by rw [IR.out.nb]; exact h24
              have UA : Hid ((fillS (T2 j) 1024).size = DA.size) := Lib.hid (by rw [fillS_size]; unfold Dev.size; rw [IR.out.ns])
              have FA := Lib.hid (IR.out.free (no : Int))
              have hll := TR.out.len no hno2
              clear eqb e0
              obtain ⟨lv, hlk, hlo, hlb⟩ := TR.out.look hno2
              obtain ⟨la, lc, rfl⟩ := own_shape hlo
              have HLO := Lib.hid hlo
              have HLB := Lib.hid (fun b hb => (⟨hlb b hb, (hlo.lt b hb).2⟩ : x b = 200 + no ∧ b < wr.heap.size))
              clear hlo hlb
              obtain ⟨i0, hi, hz0, hz1, hz2⟩ := info_parts Try.infoStr
              go_wp2_with fail
              clear hno
              refine (Fill_any wr (T2 j) 1024 hts (by omega)).mono ?_
              rintro e w5 ⟨rfl, rfl⟩
              have US := Lib.hid (fillS_size (T2 j) 1024)
              generalize fillS (T2 j) 1024 = u at UA US ⊢
              go_wp2_with (at_builtin; refine wpList_append_at _ rfl _ _ 52 rfl 0 9 i0 _ 1 16 Try.underlying52 hi hz0 hz1 hz2 rfl (by decide) _ (L (no : Int)).length _ rfl (HLO.out.alloc _) ⟨wr.heap.size, 0, none⟩ 1 1 [.string u] rfl rfl ?c1 (str_one _) ?c3 ?c4 ?c5 ?c6 ?_)
              try case c1 => exact cell_str_new _ _ _
              try case c3 => simp only [maxLen]; omega
              try case c4 => omega
              try case c5 => omega
              try case c6 => omega
              intro v1 w1 own1 hg1 hw1
              obtain ⟨a1, p1, hv1⟩ := own_shape own1
              subst hv1
              obtain ⟨w2, hrun, f2, t2⟩ := TR.out.add hno2 HLB.out hg1 (by rw [← strsV_snoc]; exact own1) (by rw [World.size_alloc]; exact hw1) (by simp only [maxLen]; omega)
              have S2 := Lib.hid (SR.out.frame f2 (fun e he hc => by omega))
              have T2' := Lib.hid t2
              clear own1 hg1 hw1 f2 t2 hlk
              generalize paint x wr.heap.size (200 + no) = x2 at S2 T2'
              have IA := Lib.hid (IR.out.write h0n h24 UA.out)
              have LA := Lib.hid (fetch_late LR.out (no : Int) u (A.arc.pins (no : Int)))
              have KA : Hid (∀ k : Nat, k < 24 → (fetchS A DA (no : Int) true).1.2.kept (k : Int) = V k) := Lib.hid (fun k hk => by
                rw [← KR.out k hk]
                unfold Dev.kept Dev.size
                rw [LA.out.2, IA.out.1.ns, IR.out.ns])
              obtain ⟨kc, kf⟩ := S2.out.hi.cell hno2
              go_wp2_with fail
              refine (SWrite_any x2 0 20 sa da ea A DA (700 + 10 * j) _ no u S2.out.a IR.out.ok hca h0n hnA (by omega) UA.out FA.out).mono ?_
              rintro e w6 ⟨rfl, x6, f6, h6⟩
              have S6 := Lib.hid ((S2.out.turn f6 h6).mono (show 700 + 10 * j + 8 ≤ 700 + 10 * (j + 1) by omega))
              have T6 := Lib.hid (T2'.out.frame f6 (fun e he hc => by
                rcases hc with q | q
                · have := q.2; omega
                · have := q.2; omega))
              clear f6 h6 kc kf
              go_wp2_with fail
              go_roundw
              case rel => exact ⟨j + 1, by go_num, by omega, by omega, x6, _, _, _, S6.out, T6.out, IA.out.1, LA.out.1, KA.out, fun k t ht => by
                have ht : t ∈ (if k = (no : Int) then L k ++ [u] else L k) := ht
                by_cases hkn : k = (no : Int)
                · rw [if_pos hkn] at ht
                  rcases List.mem_append.1 ht with ht | ht
                  · exact ZL.out k t ht
                  · rw [List.mem_singleton.1 ht]; exact US.out
                · rw [if_neg hkn] at ht; exact ZL.out k t ht⟩
              case measure => simp [intOf]; omega
            · have hcases : ¬ j < n2 ∨ (j < n2 ∧ ¬ j < 60) := by omega
              have SE := Lib.hid (SR.out.mono (show 700 + 10 * j ≤ 1300 by omega))
              have TE := Lib.hid (TR.out.mono hj2)
              clear hend
              obtain h1 | ⟨h1, h2⟩ := hcases
              · go_wp2_with fail
                go_meet
                case rel => exact ⟨x, A, DA, L, SE.out, TE.out, IR.out, LR.out, KR.out, ZL.out⟩
              · go_wp2_with fail
                go_meet
                case rel => exact ⟨x, A, DA, L, SE.out, TE.out, IR.out, LR.out, KR.out, ZL.out⟩
        case rest => as_aux_lemma =>
          obtain ⟨x, A, DA, L, hS, hT, hI, hL, hK, hZ⟩ := hcut
          have SR := Lib.hid hS
          have TR := Lib.hid hT
          have IR := Lib.hid hI
          have LR := Lib.hid hL
          have KR := Lib.hid hK
          have ZL := Lib.hid hZ
          clear hS hT hI hL hK hZ
          have hb0 : wc.cell? ⟨bx, 0, none⟩ = some kv := by rw [cell_of_row _ _ _ _ _ _ SR.out.hb]; rfl
          have hb1 : wc.cell? ⟨bx, 1, none⟩ = some (.int .i64 tn) := by rw [cell_of_row _ _ _ _ _ _ SR.out.hb]; rfl
          have hb2 : wc.cell? ⟨bx, 2, none⟩ = some (.int .u8 mk) := by rw [cell_of_row _ _ _ _ _ _ SR.out.hb]; rfl
          have hbl := lt_of_block SR.out.hb
          go_upto_region 28 with fail
          go_cut [147] from 136 to 147 (fun s147 wd => s147 = .bool false ∧ ∃ x DB, Fell DA DB ∧ SF w sa da ea ib bx kv tn mk 1300 x A DB V wd ∧ LAT x wd lm 60 L)
          case first => as_aux_lemma =>
            have BX0 : BX bx kv tn mk wc := SR.out.hb
            rcases KV.out with ⟨ka, kc, rfl⟩ | ⟨kb, ko, kn, kc, zs, rfl, z1, z2, z3, z4, z5⟩
            · have PS := Lib.hid (fun (W : World) (hb : Below wc.heap.size wc W) (g : Nat) => pull_step SR.out TR.out IR.out hb (.slice (some ⟨g, 0, none⟩) 0 0) (.inl ⟨_, _, rfl⟩))
              go_region_held3 (fun w' => w'.cell? ⟨bx, 0, none⟩ = some (.slice ka 0 kc) ∧ w'.cell? ⟨bx, 1, none⟩ = some (.int .i64 tn) ∧ w'.cell? ⟨bx, 2, none⟩ = some (.int .u8 mk))
                ((refine BX.cells ?_; repeat (first | with_reducible assumption | with_reducible exact BX0 | with_reducible exact B9 | with_reducible refine BX.drew ?_ | with_reducible refine BX.drewN ?_ _ | with_reducible refine BX.alloc ?_ _)))
                (first
                | (refine wp_append_zero (by rfl) (.tmp 137) (.tmp 139) rfl _ ka kc (by rfl) (by rfl) ?_)
                | (go_at_call 20; refine (PS.out _ (by repeat (first | with_reducible exact Below.refl _ _ | with_reducible refine Below.drew ?_ | with_reducible refine bel_drewN ?_ _ | with_reducible refine bel_alloc ?_ _)) _).mono ?_; rintro e w9 ⟨rfl, x9, DB, hF, h9, t9⟩; have HF := Lib.hid hF; have S9 := Lib.hid h9; have T9 := Lib.hid t9; have B9 : BX bx _ tn mk w9 := h9.hb; clear hF h9 t9))
              all_goals
                go_wp2_with fail
                go_meet
                case rel => exact ⟨rfl, x9, DB, HF.out, S9.out, T9.out⟩
            · have HKC := Lib.hid (fun (W : World) (hW : Below wc.heap.size wc W) => (show ∀ j, j < zs.length → W.cell? ⟨kb, ko + j, none⟩ = some (.int .i64 (zs.getD j 0)) from fun j hj => by
                have e1 : wc.heap[kb]? = w.heap[kb]? := SR.out.ff.old kb z4 (by show ¬ ((100 : Nat) ≠ 100); omega)
                have e2 := hW.block kb (Nat.lt_of_lt_of_le z4 SR.out.ff.size)
                rw [World.cell?_of_block (w := w) (w' := W) (e2.trans e1)]; exact z5 j hj))
              have PS := Lib.hid (fun (W : World) (hb : Below wc.heap.size wc W) (g cap : Nat) (cs : Array Value) (hcs : ∀ j, j < zs.length → cs[j]? = some (.int .i64 (zs.getD j 0))) (h4 : wc.heap.size ≤ g) (hg : W.heap[g]? = some (.cells cs 3 (0, 0))) => pull_step SR.out TR.out IR.out hb (.slice (some ⟨g, 0, none⟩) kn cap) (.inr ⟨g, kn, cap, zs, rfl, z1, z3, h4, lt_of_block hg, fun j hj => by rw [cell_of_row _ _ _ _ _ _ hg]; exact hcs j hj⟩))
              have Z1 := Lib.hid z1
              have Z2 := Lib.hid z2
              have Z3 := Lib.hid z3
              clear z1 z2 z3 z4 z5
              go_region_held3 (fun w' => w'.cell? ⟨bx, 0, none⟩ = some (.slice (some ⟨kb, ko, none⟩) kn kc) ∧ w'.cell? ⟨bx, 1, none⟩ = some (.int .i64 tn) ∧ w'.cell? ⟨bx, 2, none⟩ = some (.int .u8 mk))
                ((refine BX.cells ?_; repeat (first | with_reducible assumption | with_reducible exact BX0 | with_reducible exact B9 | with_reducible refine BX.drew ?_ | with_reducible refine BX.drewN ?_ _ | with_reducible refine BX.alloc ?_ _)))
                (first
                | (refine wp_append_grow (by rfl) (.tmp 137) (.tmp 139) rfl _ kb ko kn kc zs (by rfl) (by rfl) Z1.out Z2.out Z3.out (HKC.out _ (by repeat (first | with_reducible exact Below.refl _ _ | with_reducible refine Below.drew ?_ | with_reducible refine bel_drewN ?_ _ | with_reducible refine bel_alloc ?_ _))) ?_; intro cs cap hcs; have HCS := Lib.hid hcs; clear hcs)
                | (go_at_call 20; refine (PS.out _ (by repeat (first | with_reducible exact Below.refl _ _ | with_reducible refine Below.drew ?_ | with_reducible refine bel_drewN ?_ _ | with_reducible refine bel_alloc ?_ _)) _ _ cs HCS.out (Nat.le_succ _) (by have q := World.alloc_heap_new (wc.alloc (.cells #[] 3)) (.cells cs 3); rw [World.size_alloc] at q; exact q)).mono ?_; rintro e w9 ⟨rfl, x9, DB, hF, h9, t9⟩; have HF := Lib.hid hF; have S9 := Lib.hid h9; have T9 := Lib.hid t9; have B9 : BX bx _ tn mk w9 := h9.hb; clear hF h9 t9))
              all_goals
                go_wp2_with fail
                go_meet
                case rel => exact ⟨rfl, x9, DB, HF.out, S9.out, T9.out⟩
          case rest => as_aux_lemma =>
            obtain ⟨rfl, x9, DB, hF, hS9, hT9⟩ := hcut
            have HF := Lib.hid hF
            have S9 := Lib.hid hS9
            have T9 := Lib.hid hT9
            clear hF hS9 hT9 SR TR hb0 hb1 hb2 hbl
            go_wp2_with fail
            refine (SRead_down x9 0 20 sa da ea A DB 1300 _ 0 S9.out.a hca (.inr HF.out.down)).mono ?_
            rintro e w10 ⟨rfl, x10, f10, h10⟩
            have S10 := Lib.hid (S9.out.turn f10 h10)
            have T10 := Lib.hid (T9.out.dev f10)
            clear f10 h10
            go_wp2_with fail
            refine (Restart_any x10 20 da DB 1300 w10 S10.out.a.2 HF.out.down).mono ?_
            rintro e w11 ⟨rfl, x11, f11, h11⟩
            have S11 := Lib.hid (S10.out.dev f11 h11)
            have T11 := Lib.hid (T10.out.dev (f11.mono (fun e he => .inr he)))
            clear f11 h11
            have TELL := Lib.hid (fun (n k : Nat) (hn : n < 24) (hk : k < 2) => (show sect (({ DB with down := false } : Dev).now (n : Int)) k = sect (V n) k ∨ ∃ t ∈ L (n : Int), sect (({ DB with down := false } : Dev).now (n : Int)) k = sect t k from by
              have h := fell_tells HF.out LR.out (n := (n : Int)) (k := k) (by rw [IR.out.ns]; exact hk)
              rw [KR.out n hn] at h
              exact h))
            have SZ := Lib.hid (fun (n : Int) => (show (({ DB with down := false } : Dev).now n).size = 1024 from by
              have := HF.out.ok.now n
              have e : DB.size = 1024 := by unfold Dev.size; rw [HF.out.ns, IR.out.ns]
              rw [e] at this
              exact this))
            have OKN : Hid (({ DB with down := false } : Dev).Ok) := Lib.hid ⟨HF.out.ok.blocks, HF.out.ok.sectors, HF.out.ok.safe, HF.out.ok.cache⟩
            have NB : Hid (({ DB with down := false } : Dev).nb = 24) := Lib.hid (HF.out.nb.trans IR.out.nb)
            clear S9 T9 S10 T10
            generalize ({ DB with down := false } : Dev) = Dn at S11 T11 TELL SZ OKN NB
            go_wp2_with fail
            refine (SRead_down x11 0 20 sa da ea _ Dn 1300 w11 0 S11.out.a hca (.inl rfl)).mono ?_
            rintro e w12 ⟨rfl, x12, f12, h12⟩
            have S12 := Lib.hid (S11.out.turn f12 h12)
            have T12 := Lib.hid (T11.out.dev f12)
            clear f12 h12
            go_wp2_with fail
            refine (Image_any x12 20 da Dn 1300 w12 S12.out.a.2 OKN.out (by omega)).mono ?_
            rintro e w13 ⟨iv, rfl, hio, hbi⟩
            have S13 := Lib.hid (S12.out.below hbi 44 (by omega))
            have T13 := Lib.hid (T12.out.below hbi 44 (by omega))
            rw [NB.out] at hio
            obtain ⟨ia, icap, hiv⟩ := own_shape hio
            subst hiv
            have IO := Lib.hid hio
            clear hio hbi S12 T12 S11 T11
            have S14 : Hid (IsA w13 ib V) := Lib.hid S13.out.hi
            have F14 : Hid (Below w.heap.size w w13) := Lib.hid (S13.out.ff.below_all (fun b _ hC => by have : (100 : Nat) ≠ 100 := hC; omega))
            clear S13
            rcases IO.out.2 with ⟨-, h0⟩ | ⟨ga, gcap, gcur, hv, -⟩
            · exact absurd h0 (by decide)
            · obtain ⟨rfl, -, -⟩ := Value.slice.inj hv
              clear hv
              go_wp2_with fail
              go_loopw [24] (fun i wq => ∃ n q : Nat, i = .int .i64 n ∧ n ≤ 24 ∧ w13.drewN q = wq) (fun i _ => 24 - (intOf i).toNat)
              case atStart => exact ⟨0, 0, rfl, by omega, rfl⟩
              case round => as_aux_lemma =>
                obtain ⟨n, q0, rfl, hn, rfl⟩ := hrel
                by_cases hlt : n < 24
                · have hin : w13.cell? ⟨ga, n, none⟩ = some (.string (Dn.now (n : Int))) := by rw [IO.out.cellAt n (by omega)]; exact imgV_get Dn 24 n hlt
                  obtain ⟨hvn, -⟩ := S14.out.cell hlt
                  obtain ⟨lv, hlk, hlo⟩ := T13.out.look2 hlt
                  obtain ⟨la, lc, rfl⟩ := own_shape hlo
                  have HLO := Lib.hid hlo
                  clear hlo
                  have TN := Lib.hid (fun k hk => TELL.out n k hlt hk)
                  have ZN := SZ.out (n : Int)
                  have ZV := ZR.out n hlt
                  have ZT := Lib.hid (ZL.out (n : Int))
                  obtain ⟨gn, hgn⟩ : ∃ gn, Dn.now (n : Int) = gn := ⟨_, rfl⟩
                  obtain ⟨vn, hvv⟩ : ∃ vn, V n = vn := ⟨_, rfl⟩
                  obtain ⟨ln, hln⟩ : ∃ ln, L (n : Int) = ln := ⟨_, rfl⟩
                  rw [hgn] at hin TN ZN
                  rw [hvv] at hvn TN ZV
                  rw [hln] at hlk HLO TN ZT
                  have hnl : ln.length ≤ 60 := by rw [← hln]; exact T13.out.len n hlt
                  have HLK := Lib.hid hlk
                  clear hgn hvv hln hlk
                  go_wp2_with fail
                  go_loopw [25] (fun i wq => ∃ k q : Nat, i = .int .i64 k ∧ k ≤ 2 ∧ w13.drewN q = wq) (fun i _ => 2 - (intOf i).toNat)
                  case atStart => exact ⟨0, q0, rfl, by omega, rfl⟩
                  case round => as_aux_lemma =>
                    obtain ⟨k, q1, rfl, hk, rfl⟩ := hrel
                    by_cases hk2 : k < 2
                    · obtain ⟨lo, hlo⟩ : ∃ lo : Nat, lo = 512 * k := ⟨_, rfl⟩
                      obtain ⟨hi, hhi⟩ : ∃ hi : Nat, hi = 512 * k + 512 := ⟨_, rfl⟩
                      have a2 : IntKind.i64.wrap (512 * (k : Int)) = (lo : Int) := (IntWalk.i64_in _ (by omega)).trans (by omega)
                      have a3 : IntKind.i64.wrap ((lo : Int) + 512) = (hi : Int) := (IntWalk.i64_in _ (by omega)).trans (by omega)
                      have a7 : lo ≤ hi := by omega
                      have a8 : hi ≤ 1024 := by omega
                      have b7 : (lo : Int) ≤ hi := by omega
                      have b8 : (hi : Int) ≤ 1024 := by omega
                      have E := Lib.hid (fun t : ByteArray => (show t.extract lo hi = sect t k by unfold sect; rw [hlo, hhi]))
                      have TK := Lib.hid (TN.out k hk2)
                      clear hlo hhi
                      go_upto_region 41 with fail
                      go_quiet (fail)
                      obtain ⟨q2, hq2⟩ : ∃ q2, (w13.drewN q1).drewN nq = w13.drewN q2 := ⟨q1 + nq, by simp [World.drewN, Nat.add_assoc]⟩
                      rw [hq2]
                      have OK0 : Hid (Value.bool ((gn.extract lo hi).toList == (vn.extract lo hi).toList) = Value.bool (okB gn vn (ln.take 0) lo hi)) := Lib.hid (by rw [List.take_zero, okB_zero]; rfl)
                      have OKE := Lib.hid (okB_true E.out TK.out)
                      clear hq2
                      go_wp2_with fail
                      go_loopw [26, 27] (fun okv i wq => ∃ j q : Nat, i = .int .i64 j ∧ j ≤ ln.length ∧ okv = .bool (okB gn vn (ln.take j) lo hi) ∧ w13.drewN q = wq) (fun _ i _ => ln.length - (intOf i).toNat)
                      case atStart => exact ⟨0, q2, rfl, by omega, OK0.out, rfl⟩
                      case round => as_aux_lemma =>
                        obtain ⟨j, q3, rfl, hj, rfl, rfl⟩ := hrel
                        have hlkq := HLK.out
                        by_cases hjl : j < ln.length
                        · rcases HLO.out.2 with ⟨-, h0⟩ | ⟨gl, glc, glr, hv, -⟩
                          · omega
                          · obtain ⟨rfl, -, -⟩ := Value.slice.inj hv
                            clear hv
                            have hlj : w13.cell? ⟨gl, j, none⟩ = some (.string ln[j]) := by rw [HLO.out.cellAt j (by omega)]; exact strsV_get ln j hjl
                            have hzj := ZT.out ln[j] (List.getElem_mem hjl)
                            have OS := Lib.hid (okB_succ gn vn ln lo hi j hjl)
                            obtain ⟨tj, htj⟩ : ∃ tj, ln[j] = tj := ⟨_, rfl⟩
                            rw [htj] at hlj hzj OS
                            obtain ⟨b, hb⟩ : ∃ b, okB gn vn (ln.take j) lo hi = b := ⟨_, rfl⟩
                            rw [hb] at OS ⊢
                            clear htj hb
                            cases b with
                            | true =>
                              go_upto_region 45 with fail
                              go_quiet (fail)
                              obtain ⟨q4, hq4⟩ : ∃ q4, (w13.drewN q3).drewN nq = w13.drewN q4 := ⟨q3 + nq, by simp [World.drewN, Nat.add_assoc]⟩
                              rw [hq4]
                              clear hq4
                              go_wp2_with fail
                              go_roundw
                              case rel => exact ⟨j + 1, q4, by go_num, by omega, by rw [OS.out]; rfl, rfl⟩
                              case measure => simp [intOf]; omega
                            | false =>
                              go_upto_region 45 with fail
                              go_quiet (fail)
                              obtain ⟨q4, hq4⟩ : ∃ q4, (w13.drewN q3).drewN nq = w13.drewN q4 := ⟨q3 + nq, by simp [World.drewN, Nat.add_assoc]⟩
                              rw [hq4]
                              clear hq4
                              go_wp2_with fail
                              go_roundw
                              case rel => exact ⟨j + 1, q4, by go_num, by omega, by rw [OS.out, Bool.false_or]; rfl, rfl⟩
                              case measure => simp [intOf]; omega
                        · obtain rfl : j = ln.length := by omega
                          rw [List.take_length, OKE.out]
                          go_wp2_with fail
                          go_roundw
                          case rel => exact ⟨k + 1, q3, by go_num, by omega, rfl⟩
                          case measure => simp [intOf]; omega
                    · obtain rfl : k = 2 := by omega
                      go_wp2_with fail
                      go_roundw
                      case rel => exact ⟨n + 1, q1, by go_num, by omega, rfl⟩
                      case measure => simp [intOf]; omega
                · obtain rfl : n = 24 := by omega
                  go_wp2_with fail
                  go_ret
                  exact ⟨rfl, F14.out.trans ⟨rfl, rfl, rfl, Nat.le_refl _, fun _ _ => rfl⟩⟩

end Go.Proofs.Ytbgbomlmgkgkoaa.arcI
