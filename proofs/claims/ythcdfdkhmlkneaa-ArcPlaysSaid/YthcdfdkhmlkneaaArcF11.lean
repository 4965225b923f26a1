/- Statement ArcPlays: Touch of the document's cache whole; both caches asked alike. -/
import Derived.BigQuiet
import Derived.BigRegion
import Derived.Deep.CutRange
import Derived.Test.YthcdfdkhmlkneaaArcF10
import Derived.Test.YthcdfdkhmlkneaaArcB2
import Derived.Deep.CutBlock
namespace Go.Proofs.Ythcdfdkhmlkneaa.arcI
open Go.RowKit Go.Proofs.Ythcdfdkhmlkneaa.own

theorem rtouch_any (x : Nat → Nat) (d0 mb : Nat) (s : St) (N : Nat) (w : World) (k : K) (h : MIs x d0 w mb s N) (ok : Ok s) :
    Calls Try.prog 45 #[.pointer (some ⟨mb, 0, none⟩), .int .i64 k] w (RTouchPost x d0 mb s N k w) := by
  by_cases hk : k ∈ s.once ∨ k ∈ s.often
  · exact rtouch_held x d0 mb s N w k h ok hk
  · cases hst : stuck s with
    | true => exact rtouch_stuck x d0 mb s N w k h ok hk hst
    | false =>
      by_cases hw : k ∈ s.wonce ∨ k ∈ s.woften
      · exact rtouch_was x d0 mb s N w k h ok hk hst hw
      · exact rtouch_new x d0 mb s N w k h ok hk hst (fun hh => hw (.inl hh)) (fun hh => hw (.inr hh))

/-- the colours of a pair of caches -/
def PC (c0 d0 : Nat) : Nat → Prop := fun e => CC c0 e ∨ DE d0 e
/-- what stands while a pair of caches is asked: the program's is s, the document's t; the call's own block -/
structure DS (x : Nat → Nat) (c0 d0 : Nat) (w : World) (cb mb : Nat) (kind who key : Int) (xb : Nat) (s t : St) (N M : Nat) (x' : Nat → Nat) (w' : World) : Prop where
  fr : Fr x x' (PC c0 d0) w w'
  ci : CIs x' c0 w' cb s N
  mi : MIs x' d0 w' mb t M
  rx : w'.heap[xb]? = some (.cells #[.int .i64 kind, .int .i64 who, .int .i64 key] 57 (0, 0))
  xx : x' xb = c0 + 6
  sep : ∀ e, CC c0 e → ¬ DE d0 e
section
variable {x x' x2 : Nat → Nat} {c0 d0 : Nat} {w w' w2 : World} {cb mb : Nat} {kind who key : Int} {xb : Nat} {s t s2 t2 : St} {N M N2 M2 : Nat}
theorem DS.below (h : DS x c0 d0 w cb mb kind who key xb s t N M x' w') (hb : Below w'.heap.size w' w2) : DS x c0 d0 w cb mb kind who key xb s t N M (paint x' w'.heap.size (c0 + 6)) w2 :=
  ⟨h.fr.trans (Fr.of_below hb (.inl ⟨by omega, Nat.le_refl _⟩)), h.ci.below hb, h.mi.below hb, (hb.block _ (lt_of_block h.rx)).trans h.rx, by rw [paint_old (lt_of_block h.rx)]; exact h.xx, h.sep⟩
theorem DS.drewN (h : DS x c0 d0 w cb mb kind who key xb s t N M x' w') (n : Nat) : DS x c0 d0 w cb mb kind who key xb s t N M x' (w'.drewN n) :=
  ⟨Fr.drewN h.fr n, h.ci, h.mi, h.rx, h.xx, h.sep⟩
theorem DS.cache (h : DS x c0 d0 w cb mb kind who key xb s t N M x' w') (hf : Fr x' x2 (CD c0) w' w2) (hc : CIs x2 c0 w2 cb s2 N2) : DS x c0 d0 w cb mb kind who key xb s2 t N2 M x2 w2 :=
  ⟨h.fr.trans (hf.mono (fun e he => .inl (CD_sub c0 e he))), hc, h.mi.frame hf (fun e he hC => h.sep e (CD_sub c0 e hC) (DD_sub d0 e he)),
    (hf.old xb (lt_of_block h.rx) (by rw [h.xx]; exact fun hh => by have := hh.2; omega)).trans h.rx, by rw [hf.col xb (lt_of_block h.rx)]; exact h.xx, h.sep⟩
theorem DS.doc (h : DS x c0 d0 w cb mb kind who key xb s t N M x' w') (hf : Fr x' x2 (DE d0) w' w2) (hc : MIs x2 d0 w2 mb t2 M2) : DS x c0 d0 w cb mb kind who key xb s t2 N M2 x2 w2 :=
  ⟨h.fr.trans (hf.mono (fun e he => .inr he)), h.ci.frame hf (fun e he hC => h.sep e (CD_sub c0 e he) hC), hc,
    (hf.old xb (lt_of_block h.rx) (by rw [h.xx]; exact h.sep _ ⟨by omega, Nat.le_refl _⟩)).trans h.rx, by rw [hf.col xb (lt_of_block h.rx)]; exact h.xx, h.sep⟩
theorem DS.start (h : CIs x c0 w cb s N) (h' : MIs x d0 w mb t M) (sep : ∀ e, CC c0 e → ¬ DE d0 e) :
    DS x c0 d0 w cb mb kind who key w.heap.size s t N M (paint x w.heap.size (c0 + 6)) (w.alloc (.cells #[.int .i64 kind, .int .i64 who, .int .i64 key] 57)) := by
  have hb : Below w.heap.size w (w.alloc (.cells #[.int .i64 kind, .int .i64 who, .int .i64 key] 57)) := (Below.refl _ _).alloc (Nat.le_refl _) _
  exact ⟨Fr.of_below hb (.inl ⟨by omega, Nat.le_refl _⟩), h.below hb, h'.below hb, heap_alloc_new w _, paint_new (Nat.le_refl _), sep⟩
end
def Drawn (wd wr : World) : Prop := ∃ m, wr = wd.drewN m
theorem Drawn.refl (w : World) : Drawn w w := ⟨0, rfl⟩
theorem Drawn.drewN {wd wr : World} (h : Drawn wd wr) (n : Nat) : Drawn wd (wr.drewN n) := by
  obtain ⟨m, rfl⟩ := h
  exact ⟨m + n, by unfold World.drewN; simp [Nat.add_assoc]⟩
theorem Drawn.drew {wd wr : World} (h : Drawn wd wr) : Drawn wd wr.drew := h.drewN 1
/-- a block of the call's own stays as both caches are asked -/
theorem kept_doc {x x' : Nat → Nat} {c0 d0 : Nat} {w w' : World} {b : Nat} {o : Obj} (hf : Fr x x' (DE d0) w w') (sep : ∀ e, CC c0 e → ¬ DE d0 e) (h : w.heap[b]? = some o) (hx : x b = c0 + 6) : w'.heap[b]? = some o ∧ x' b = c0 + 6 :=
  ⟨(hf.old b (lt_of_block h) (by rw [hx]; exact sep _ ⟨by omega, Nat.le_refl _⟩)).trans h, by rw [hf.col b (lt_of_block h)]; exact hx⟩

def DoesPost (x : Nat → Nat) (c0 d0 : Nat) (w : World) (cb mb : Nat) (s : St) (N : Nat) (kind key : Int) (e : Ending) (w' : World) : Prop :=
  e = .returned (.bool true) ∧ ∃ x', Fr x x' (PC c0 d0) w w' ∧ CIs x' c0 w' cb (runS s kind key).1 (N + 2) ∧ MIs x' d0 w' mb (runS s kind key).1 (N + 2)

set_option maxRecDepth 100000 in
set_option maxHeartbeats 12800000 in
theorem does_any (x : Nat → Nat) (c0 d0 cb mb : Nat) (s : St) (N : Nat) (kind who key : Int) (hok : (Lit.int .i64 key).wf = true) (w : World) (h : CIs x c0 w cb s N) (h' : MIs x d0 w mb s N) (sep : ∀ e, CC c0 e → ¬ DE d0 e)
    (ok : Ok s) (hN : N + 2 < 1099511627776) (hp : s.pins key < 1099511627776) :
    Calls Try.prog 21 #[.pointer (some ⟨cb, 0, none⟩), .pointer (some ⟨mb, 0, none⟩), .agg #[.int .i64 kind, .int .i64 who, .int .i64 key]] w (DoesPost x c0 d0 w cb mb s N kind key) := by
  have OK := Lib.hid ok
  have SEP := Lib.hid sep
  have D0 : Hid (DS x c0 d0 w cb mb kind who key w.heap.size s s N N _ _) := Lib.hid (DS.start h h' sep)
  have RUN := Lib.hid (run_ok s kind key hok ok)
  clear h h' sep ok
  go_enter Try.func21, Try.ntmps21
  go_upto_block 0 with fail
  generalize paint x w.heap.size (c0 + 6) = x0 at D0
  generalize hxb : w.heap.size = xb at D0 ⊢
  generalize World.alloc w _ = W0 at D0 ⊢
  clear hxb
  go_cut [7] from 8 to 86 (fun s7 wc => s7 = .bool true ∧ ∃ x9, DS x c0 d0 w cb mb kind who key xb (runS s kind key).1 (runS s kind key).1 (N + 2) (N + 2) x9 wc)
  case first => as_aux_lemma =>
    have e0 : W0.cell? ⟨xb, 0, none⟩ = some (.int .i64 kind) := by rw [cell_of_row W0 _ _ _ _ _ D0.out.rx]; rfl
    have e2 : W0.cell? ⟨xb, 2, none⟩ = some (.int .i64 key) := by rw [cell_of_row W0 _ _ _ _ _ D0.out.rx]; rfl
    by_cases h0 : kind = 0
    · subst h0
      obtain ⟨t, hit, gn, er, hts⟩ : ∃ t hit gn er, touchS s key = (t, hit, gn, er) := ⟨_, _, _, _, rfl⟩
      have HTS := Lib.hid hts
      have RR : Hid ((runS s 0 key).1 = t) := Lib.hid (by show (touchS s key).1 = t; rw [hts])
      clear hts
      go_wp2_with fail
      refine (touch_any _ c0 cb s N key hok _ D0.out.ci OK.out hN).mono ?_
      rintro e w4 ⟨rfl, x4, hf4, hc4⟩
      rw [HTS.out] at hc4 ⊢
      have D4 := Lib.hid (D0.out.cache hf4 hc4)
      clear hf4 hc4 e0 e2 D0
      obtain ⟨z, hz9⟩ := gone_shape gn
      dsimp only
      unfold touchedV
      rw [hz9]
      obtain ⟨og, hog⟩ : ∃ og, gn.isSome = og := ⟨_, rfl⟩
      rw [hog]
      have HA : Hid (Below w4.heap.size w4 (w4.alloc (.cells #[.bool hit, .bool og, .int .i64 z] 77))) := Lib.hid ((Below.refl _ _).alloc (Nat.le_refl _) _)
      have D5 := Lib.hid (D4.out.below HA.out)
      have RA : Hid ((w4.alloc (.cells #[.bool hit, .bool og, .int .i64 z] 77)).heap[w4.heap.size]? = some (.cells #[.bool hit, .bool og, .int .i64 z] 77 (0, 0))) := Lib.hid (heap_alloc_new w4 _)
      have XA : Hid (paint x4 w4.heap.size (c0 + 6) w4.heap.size = c0 + 6) := Lib.hid (paint_new (Nat.le_refl _))
      have e2 : w4.cell? ⟨xb, 2, none⟩ = some (.int .i64 key) := by rw [cell_of_row w4 _ _ _ _ _ D4.out.rx]; rfl
      have e2' : (w4.alloc (.cells #[.bool hit, .bool og, .int .i64 z] 77)).cell? ⟨xb, 2, none⟩ = some (.int .i64 key) := by rw [cell_of_row _ _ _ _ _ _ D5.out.rx]; rfl
      go_wp2_with fail
      refine (rtouch_any _ d0 mb s N _ key D5.out.mi OK.out).mono ?_
      rintro e w6 ⟨rfl, x6, hf6, hm6⟩
      rw [HTS.out] at hm6 ⊢
      have D6 := Lib.hid (D5.out.doc hf6 hm6)
      obtain ⟨ra6, xa6⟩ := kept_doc hf6 SEP.out RA.out XA.out
      have RA6 := Lib.hid ra6
      have hal : w4.heap.size < w6.heap.size := lt_of_block ra6
      clear hf6 hm6 e2 e2' HA RA XA D5 D4 ra6 xa6
      dsimp only
      unfold touchedV
      rw [hz9, hog]
      clear hz9 hog
      generalize w4.heap.size = ab at RA6 hal ⊢
      have HB : Hid (Below w6.heap.size w6 (w6.alloc (.cells #[.bool hit, .bool og, .int .i64 z] 100))) := Lib.hid ((Below.refl _ _).alloc (Nat.le_refl _) _)
      have D7 := Lib.hid (D6.out.below HB.out)
      have RB : Hid ((w6.alloc (.cells #[.bool hit, .bool og, .int .i64 z] 100)).heap[w6.heap.size]? = some (.cells #[.bool hit, .bool og, .int .i64 z] 100 (0, 0))) := Lib.hid (heap_alloc_new w6 _)
      have RA7 := Lib.hid ((HB.out.block ab hal).trans RA6.out)
      go_upto_region 6 with fail
      generalize w6.heap.size = bb at RB D7 ⊢
      generalize World.alloc w6 _ = W7 at RA7 RB D7 ⊢
      clear HB D6 RA6 hal
      have a0 : W7.cell? ⟨ab, 0, none⟩ = some (.bool hit) := by rw [cell_of_row W7 _ _ _ _ _ RA7.out]; rfl
      have a1 : W7.cell? ⟨ab, 1, none⟩ = some (.bool og) := by rw [cell_of_row W7 _ _ _ _ _ RA7.out]; rfl
      have a2 : W7.cell? ⟨ab, 2, none⟩ = some (.int .i64 z) := by rw [cell_of_row W7 _ _ _ _ _ RA7.out]; rfl
      have b0 : W7.cell? ⟨bb, 0, none⟩ = some (.bool hit) := by rw [cell_of_row W7 _ _ _ _ _ RB.out]; rfl
      have b1 : W7.cell? ⟨bb, 1, none⟩ = some (.bool og) := by rw [cell_of_row W7 _ _ _ _ _ RB.out]; rfl
      have b2 : W7.cell? ⟨bb, 2, none⟩ = some (.int .i64 z) := by rw [cell_of_row W7 _ _ _ _ _ RB.out]; rfl
      go_wp2_with fail
      go_meet
      case rel => exact ⟨rfl, _, by rw [RR.out]; exact ⟨D7.out.fr, D7.out.ci, D7.out.mi.mono (by omega), D7.out.rx, D7.out.xx, D7.out.sep⟩⟩
    · by_cases h1 : kind = 1
      · subst h1
        have RR : Hid ((runS s 1 key).1 = (pinR s key).1) := Lib.hid rfl
        have hd2 : W0.drew.cell? ⟨xb, 2, none⟩ = some (.int .i64 key) := e2
        go_wp2_with fail
        go_region_with (first
          | (go_at_call 46; refine (Pin_any _ c0 cb s N _ key hok (D0.out.drewN 1).ci (by omega) hp).mono ?_; rintro e w4 ⟨rfl, x4, hf4, hc4⟩; have D4 := Lib.hid ((D0.out.drewN 1).cache hf4 (hc4.mono (N' := N + 2) (by omega))); clear hf4 hc4; have e4 : w4.cell? ⟨xb, 2, none⟩ = some (.int .i64 key) := by rw [cell_of_row w4 _ _ _ _ _ D4.out.rx]; rfl)
          | (go_at_call 47; refine (rPin_any _ d0 mb s N _ key hok D4.out.mi (by omega) hp).mono ?_; rintro e w6 ⟨rfl, x6, hf6, hm6⟩; have D6 := Lib.hid (D4.out.doc (hf6.mono (DD_sub d0)) (hm6.mono (N' := N + 2) (by omega))); clear hf6 hm6))
        all_goals
          go_wp2_with fail
          go_meet
          case rel => exact ⟨rfl, x6, by rw [RR.out]; exact D6.out⟩
      · by_cases h2 : kind = 2
        · subst h2
          have RR : Hid ((runS s 2 key).1 = (unpinR s key).1) := Lib.hid rfl
          have hd2 : W0.drew.cell? ⟨xb, 2, none⟩ = some (.int .i64 key) := e2
          go_wp2_with fail
          go_region_with (first
            | (go_at_call 48; refine (Unpin_any _ c0 cb s N _ key hok (D0.out.drewN 1).ci (by omega) hp).mono ?_; rintro e w4 ⟨rfl, x4, hf4, hc4⟩; have D4 := Lib.hid ((D0.out.drewN 1).cache hf4 (hc4.mono (N' := N + 2) (by omega))); clear hf4 hc4; have e4 : w4.cell? ⟨xb, 2, none⟩ = some (.int .i64 key) := by rw [cell_of_row w4 _ _ _ _ _ D4.out.rx]; rfl)
            | (go_at_call 49; refine (rUnpin_any _ d0 mb s N _ key hok D4.out.mi (by omega) hp).mono ?_; rintro e w6 ⟨rfl, x6, hf6, hm6⟩; have D6 := Lib.hid (D4.out.doc (hf6.mono (DD_sub d0)) (hm6.mono (N' := N + 2) (by omega))); clear hf6 hm6))
          all_goals
            go_wp2_with fail
            go_meet
            case rel => exact ⟨rfl, x6, by rw [RR.out]; exact D6.out⟩
        · by_cases h3 : kind = 3
          · subst h3
            have RR : Hid ((runS s 3 key).1 = (dropR s key).1) := Lib.hid rfl
            have hd2 : W0.drew.cell? ⟨xb, 2, none⟩ = some (.int .i64 key) := e2
            go_wp2_with fail
            go_region_with (first
              | (go_at_call 50; refine (Drop_any _ c0 cb s N _ key hok (D0.out.drewN 1).ci OK.out hp).mono ?_; rintro e w4 ⟨rfl, x4, hf4, hc4⟩; have D4 := Lib.hid ((D0.out.drewN 1).cache hf4 (hc4.mono (N' := N + 2) (by omega))); clear hf4 hc4; have e4 : w4.cell? ⟨xb, 2, none⟩ = some (.int .i64 key) := by rw [cell_of_row w4 _ _ _ _ _ D4.out.rx]; rfl)
              | (go_at_call 51; refine (rDrop_any _ d0 mb s N _ key hok D4.out.mi OK.out hp).mono ?_; rintro e w6 ⟨rfl, x6, hf6, hm6⟩; have D6 := Lib.hid (D4.out.doc (hf6.mono (DD_sub d0)) (hm6.mono (N' := N + 2) (by omega))); clear hf6 hm6))
            all_goals
              go_wp2_with fail
              go_meet
              case rel => exact ⟨rfl, x6, by rw [RR.out]; exact D6.out⟩
          · have R : Hid ((runS s kind key).1 = s) := Lib.hid (by unfold runS; rw [if_neg h0, if_neg h1, if_neg h2, if_neg h3])
            have k0 : (kind == 0) = false := beq_eq_false_iff_ne.2 h0
            have k1 : (kind == 1) = false := beq_eq_false_iff_ne.2 h1
            have k2 : (kind == 2) = false := beq_eq_false_iff_ne.2 h2
            have k3 : (kind == 3) = false := beq_eq_false_iff_ne.2 h3
            go_wp2_with fail
            go_meet
            case rel => exact ⟨rfl, x0, by rw [R.out]; exact ⟨D0.out.fr, D0.out.ci.mono (by omega), D0.out.mi.mono (by omega), D0.out.rx, D0.out.xx, D0.out.sep⟩⟩
  case rest => as_aux_lemma =>
    obtain ⟨rfl, x9, d9⟩ := hcut
    have D9 := Lib.hid d9
    clear d9 D0
    generalize wc = W9 at D9 ⊢
    obtain ⟨t, ht⟩ : ∃ t, (runS s kind key).1 = t := ⟨_, rfl⟩
    rw [ht] at D9
    have TT := Lib.hid ht
    clear ht
    have e2 : W9.cell? ⟨xb, 2, none⟩ = some (.int .i64 key) := by rw [cell_of_row W9 _ _ _ _ _ D9.out.rx]; rfl
    obtain ⟨_, _, _, _, pm, -, -, -, -, -, -, g6, HR⟩ := D9.out.mi.cells
    have HQ : Hid (∀ W, Drawn W9 W → Calls Try.prog 33 #[.pointer (some ⟨cb, 0, none⟩), .int .i64 key] W fun e w' => e = .returned (.bool (decide (key ∈ t.once ∨ key ∈ t.often))) ∧ ∃ n, w' = W.drewN n) :=
      Lib.hid (fun W hW => by obtain ⟨m, rfl⟩ := hW; exact (Has_any _ c0 cb t _ _ key hok (D9.out.drewN m).ci).mono (fun e w' hh => ⟨hh.1, 0, hh.2.symm⟩))
    have KQ : Hid (∀ W, Drawn W9 W → Calls Try.prog 52 #[.pointer (some ⟨mb, 0, none⟩), .int .i64 key] W fun e w' => e = .returned (.bool (decide (key ∈ t.once ∨ key ∈ t.often))) ∧ ∃ n, w' = W.drewN n) :=
      Lib.hid (fun W hW => by obtain ⟨m, rfl⟩ := hW; exact (Held_any _ d0 mb t _ _ key (D9.out.drewN m).mi).mono (fun e w' hh => ⟨hh.1, 0, hh.2.symm⟩))
    have PQ : Hid (∀ W, Drawn W9 W → Calls Try.prog 37 #[.pointer (some ⟨cb, 0, none⟩), .int .i64 key] W fun e w' => e = .returned (.int .i64 (t.pins key)) ∧ ∃ n, w' = W.drewN n) :=
      Lib.hid (fun W hW => by obtain ⟨m, rfl⟩ := hW; exact (Pins_any _ c0 cb t _ _ key hok (D9.out.drewN m).ci).mono (fun e w' hh => ⟨hh.1, 0, hh.2.symm⟩))
    have hl1 : (Instr.lookup 74 (.map (some pm)) (.int .i64 key) false).run Try.prog W9 = .ok (.int .i64 (t.pins key)) W9 := HR.out.2.2.2.2.look hok
    have hl2 : ∀ m, (Instr.lookup 74 (.map (some pm)) (.int .i64 key) false).run Try.prog (W9.drewN m) = .ok (.int .i64 (t.pins key)) (W9.drewN m) := fun m => by
      have hm : MapIs (W9.drewN m) pm (N + 2) t.pins := HR.out.2.2.2.2
      exact hm.look hok
    have hl3 : (Instr.lookup 74 (.map (some pm)) (.int .i64 key) false).run Try.prog W9.drew = .ok (.int .i64 (t.pins key)) W9.drew := hl2 1
    obtain ⟨q, hq⟩ : ∃ q, t.pins key = q := ⟨_, rfl⟩
    rw [hq] at hl1 hl2 hl3 PQ
    clear hq HR
    obtain ⟨hb, hhb⟩ : ∃ b, decide (key ∈ t.once ∨ key ∈ t.often) = b := ⟨_, rfl⟩
    rw [hhb] at HQ KQ
    clear hhb
    cases hb
    all_goals
      go_wp2_with fail
      go_quiet (first
        | (go_at_call 33; refine Calls.quiet_of (HQ.out _ ?_); repeat (first | exact Drawn.refl _ | refine Drawn.drewN ?_ _ | refine Drawn.drew ?_))
        | (go_at_call 52; refine Calls.quiet_of (KQ.out _ ?_); repeat (first | exact Drawn.refl _ | refine Drawn.drewN ?_ _ | refine Drawn.drew ?_))
        | (go_at_call 37; refine Calls.quiet_of (PQ.out _ ?_); repeat (first | exact Drawn.refl _ | refine Drawn.drewN ?_ _ | refine Drawn.drew ?_)))
      go_wp2_with fail
      go_ret
      exact ⟨rfl, x9, (D9.out.drewN _).fr, by rw [TT.out]; exact (D9.out.drewN _).ci, by rw [TT.out]; exact (D9.out.drewN _).mi⟩

end Go.Proofs.Ythcdfdkhmlkneaa.arcI
