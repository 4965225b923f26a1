/- pool: Flush. -/
import Derived.Test.YtbgbomlmgkgkoaaGreatPoK
namespace Go.Proofs.YtbgbomlmgkgkoaaGreat.arcI
open Go.RowKit Go.Proofs.YtbgbomlmgkgkoaaGreat.own Go.Proofs.YtbgbomlmgkgkoaaGreat.dv Go.Proofs.YtbgbomlmgkgkoaaGreat.po

/-- a page is written, if it must be -/
def wrS (r : Sp × Dev) (k : Int) : Sp × Dev := match r.1.pg k with
  | none => r
  | some p => if p.dirty then ({ setPg r.1 k { p with dirty := false } with written := r.1.written + 1 }, r.2.write k p.text) else r
theorem wrS_clean {r : Sp × Dev} {k : Int} {p : Pg} (h : r.1.pg k = some p) (hd : p.dirty = false) : wrS r k = r := by unfold wrS; rw [h]; show (if p.dirty then _ else r) = r; rw [hd]; rfl
theorem wrS_dirty {r : Sp × Dev} {k : Int} {p : Pg} (h : r.1.pg k = some p) (hd : p.dirty = true) : wrS r k = ({ setPg r.1 k { p with dirty := false } with written := r.1.written + 1 }, r.2.write k p.text) := by unfold wrS; rw [h]; show (if p.dirty then _ else r) = _; rw [hd]; rfl
theorem wrS_none {r : Sp × Dev} {k : Int} (h : r.1.pg k = none) : wrS r k = r := by unfold wrS; rw [h]

/-- what writing a page leaves -/
structure Wrote (s : Sp) (D : Dev) (s' : Sp) (D' : Dev) : Prop where
  ok : SpOk s' D'
  arc : s'.arc = s.arc
  cnt : s'.cnt = s.cnt
  pinned : s'.pinned = s.pinned
  most : s'.most = s.most
  nb : D'.nb = D.nb
  ns : D'.ns = D.ns
  some_ : ∀ k, (s'.pg k).isSome = (s.pg k).isSome
  pins : ∀ k p', s'.pg k = some p' → ∃ p, s.pg k = some p ∧ p'.pins = p.pins ∧ p'.text = p.text ∧ (p.dirty = false → p'.dirty = false)
  cont : ∀ k, cont s' D' k = cont s D k
theorem Wrote.refl {s : Sp} {D : Dev} (ok : SpOk s D) : Wrote s D s D := ⟨ok, rfl, rfl, rfl, rfl, rfl, rfl, fun _ => rfl, fun _ p h => ⟨p, h, rfl, rfl, id⟩, fun _ => rfl⟩
theorem Wrote.trans {s s' s'' : Sp} {D D' D'' : Dev} (h : Wrote s D s' D') (k : Wrote s' D' s'' D'') : Wrote s D s'' D'' :=
  ⟨k.ok, k.arc.trans h.arc, k.cnt.trans h.cnt, k.pinned.trans h.pinned, k.most.trans h.most, k.nb.trans h.nb, k.ns.trans h.ns, fun a => (k.some_ a).trans (h.some_ a), fun a p hp => by
    obtain ⟨q, h1, h2, h3, h4⟩ := k.pins a p hp
    obtain ⟨u, g1, g2, g3, g4⟩ := h.pins a q h1
    exact ⟨u, g1, h2.trans g2, h3.trans g3, fun hd => h4 (g4 hd)⟩, fun a => (k.cont a).trans (h.cont a)⟩
theorem wrS_ok {s : Sp} {D : Dev} (ok : SpOk s D) (k : Int) : Wrote s D (wrS (s, D) k).1 (wrS (s, D) k).2 := by
  rcases hp : s.pg k with _ | p
  · rw [wrS_none (r := (s, D)) hp]; exact Wrote.refl ok
  · cases hd : p.dirty with
    | false => rw [wrS_clean (r := (s, D)) hp hd]; exact Wrote.refl ok
    | true =>
      rw [wrS_dirty (r := (s, D)) hp hd]
      have hk := ok.key k p hp
      have ht := ok.text k p hp
      have PG : ∀ j, updP s.pg k (some { p with dirty := false }) j = if j = k then some { p with dirty := false } else s.pg j := fun j => rfl
      refine ⟨⟨ok.arc, fun j => ?_, fun j q hq => ?_, ok.cnt, fun j q hq => ?_, fun j q hq => ?_, fun j q hq hqd => ?_, ok.dev.write hk.1 hk.2 ht, ok.up, ok.dead⟩, rfl, rfl, rfl, rfl, rfl, rfl, fun j => ?_, fun j q hq => ?_, fun j => ?_⟩
      · show (updP s.pg k (some { p with dirty := false }) j).isSome = true ↔ (j ∈ s.arc.once ∨ j ∈ s.arc.often)
        rw [PG j, ← ok.held j]
        by_cases hj : j = k
        · subst hj; rw [if_pos rfl, hp]; simp
        · rw [if_neg hj]
      · have hq : updP s.pg k (some { p with dirty := false }) j = some q := hq
        rw [PG j] at hq
        by_cases hj : j = k
        · subst hj; rw [if_pos rfl] at hq; rw [← Option.some.inj hq]; exact ok.pins j p hp
        · rw [if_neg hj] at hq; exact ok.pins j q hq
      · have hq : updP s.pg k (some { p with dirty := false }) j = some q := hq
        rw [PG j] at hq
        by_cases hj : j = k
        · subst hj; rw [if_pos rfl] at hq; rw [← Option.some.inj hq]; exact ok.text j p hp
        · rw [if_neg hj] at hq; exact ok.text j q hq
      · have hq : updP s.pg k (some { p with dirty := false }) j = some q := hq
        rw [PG j] at hq
        by_cases hj : j = k
        · subst hj; exact ok.key j p hp
        · rw [if_neg hj] at hq; exact ok.key j q hq
      · have hq : updP s.pg k (some { p with dirty := false }) j = some q := hq
        rw [PG j] at hq
        rw [Dev.now_write]
        by_cases hj : j = k
        · subst hj; rw [if_pos rfl] at hq; rw [← Option.some.inj hq, if_pos rfl]
        · rw [if_neg hj] at hq; rw [if_neg (fun e => hj e.symm)]; exact ok.clean j q hq hqd
      · show (updP s.pg k (some { p with dirty := false }) j).isSome = _
        rw [PG j]
        by_cases hj : j = k
        · subst hj; rw [if_pos rfl, hp]; rfl
        · rw [if_neg hj]
      · have hq : updP s.pg k (some { p with dirty := false }) j = some q := hq
        rw [PG j] at hq
        by_cases hj : j = k
        · subst hj; rw [if_pos rfl] at hq; rw [← Option.some.inj hq]; exact ⟨p, hp, rfl, rfl, fun _ => rfl⟩
        · rw [if_neg hj] at hq; exact ⟨q, hq, rfl, rfl, id⟩
      · unfold cont
        show (match updP s.pg k (some { p with dirty := false }) j with | some q => q.text | none => (D.write k p.text).now j) = _
        rw [PG j]
        by_cases hj : j = k
        · subst hj; rw [if_pos rfl, hp]
        · rw [if_neg hj]
          rcases s.pg j with _ | q
          · show (D.write k p.text).now j = D.now j
            rw [Dev.now_write, if_neg (fun e => hj e.symm)]
          · rfl
def stS (s : Sp) (D : Dev) (l : List Int) : Sp × Dev := l.foldl wrS (s, D)
theorem stS_snoc (s : Sp) (D : Dev) (l : List Int) (k : Int) : stS s D (l ++ [k]) = wrS (stS s D l) k := by unfold stS; rw [List.foldl_append]; rfl
theorem stS_ok {s : Sp} {D : Dev} (ok : SpOk s D) : ∀ l : List Int, Wrote s D (stS s D l).1 (stS s D l).2 := by
  intro l
  unfold stS
  have : ∀ (l : List Int) (r : Sp × Dev), Wrote s D r.1 r.2 → Wrote s D (l.foldl wrS r).1 (l.foldl wrS r).2 := by
    intro l
    induction l with
    | nil => intro r h; exact h
    | cons a l ih => intro r h; exact ih (wrS r a) (h.trans (wrS_ok h.ok a))
  exact this l (s, D) (Wrote.refl ok)
/-- a page that was written stays so -/
theorem stS_clean {s : Sp} {D : Dev} (ok : SpOk s D) : ∀ (l : List Int) (k : Int) (p : Pg), k ∈ l → (stS s D l).1.pg k = some p → p.dirty = false := by
  have : ∀ (l : List Int) (r : Sp × Dev), SpOk r.1 r.2 → ∀ k p, (k ∈ l ∨ ∀ q, r.1.pg k = some q → q.dirty = false) → (l.foldl wrS r).1.pg k = some p → p.dirty = false := by
    intro l
    induction l with
    | nil =>
      intro r _ k p h hp
      rcases h with h | h
      · cases h
      · exact h p hp
    | cons a l ih =>
      intro r hr k p h hp
      have w := wrS_ok hr a
      refine ih (wrS r a) w.ok k p ?_ hp
      by_cases hk : k = a
      · right
        subst hk
        intro q hq
        rcases hp0 : r.1.pg k with _ | u
        · rw [wrS_none hp0, hp0] at hq; cases hq
        · cases hd : u.dirty with
          | false => rw [wrS_clean hp0 hd, hp0] at hq; rw [← Option.some.inj hq]; exact hd
          | true =>
            rw [wrS_dirty hp0 hd] at hq
            have hq : updP r.1.pg k (some { u with dirty := false }) k = some q := hq
            rw [updP_same] at hq
            rw [← Option.some.inj hq]
      · rcases h with h | h
        · rcases List.mem_cons.1 h with h | h
          · exact absurd h hk
          · exact .inl h
        · right
          intro q hq
          obtain ⟨u, h1, _, _, h4⟩ := w.pins k q hq
          exact h4 (h u h1)
  intro l k p hk hp
  exact this l (s, D) ok k p (.inl hk) hp

theorem row_frame {x x' : Nat → Nat} {C : Nat → Prop} {c n size : Nat} {w w' : World} {v : Value} {e : TypeId} {xs : List Value} (hf : Fr x x' C w w') (hc : ¬ C c) (hr : w.ownsRow 0 e size v n xs) (hcol : ∀ b, v.ownBlock = some b → x b = c) : w'.ownsRow 0 e size v n xs ∧ ∀ b, v.ownBlock = some b → x' b = c := by
  refine ⟨⟨hr.1, ?_⟩, fun b hb => by rw [hf.col b (hr.lt b hb).2]; exact hcol b hb⟩
  rcases hr.2 with hn | ⟨g, cap, cur, hv, hb, hg, r⟩
  · exact .inl hn
  · refine .inr ⟨g, cap, cur, hv, hb, ?_, r⟩
    rw [hf.old g (lt_of_block hg) (by rw [hcol g (by rw [hv]; rfl)]; exact hc)]
    exact hg

set_option maxRecDepth 100000 in
set_option maxHeartbeats 6400000 in
theorem SFlush_any (x : Nat → Nat) (c0 d0 sb db eb : Nat) (s : Sp) (D : Dev) (N : Nat) (w : World) (h : SIs x c0 d0 w sb db eb s D N) (ok : SpOk s D) (hcd : c0 + 9 < d0 ∨ d0 + 2 < c0) (hN : N + 2 * s.cnt + 4 < 1099511627776) :
    Calls Tryz.prog 9 #[.pointer (some ⟨sb, 0, none⟩)] w fun e w' => e = .returned (.int .i64 0) ∧ ∃ ks : List Int, (∀ k, k ∈ ks ↔ (KOK k ∧ (s.pg k).isSome = true)) ∧ STurned x c0 d0 w w' sb db eb (stS s D ks).1 (stS s D ks).2.flush (N + 2 * s.cnt + 2) := by
  obtain ⟨⟨cb, pm, blk, t⟩, d⟩ := h
  have hcnt : s.cnt ≤ 4096 := by
    rw [ok.cnt, heldL_len]
    have a := ok.arc.held
    have b := ok.arc.size
    omega
  obtain ⟨np1, np2⟩ := no_PD hcd
  have q3 : w.cell? ⟨sb, 3, none⟩ = some (.map (some pm)) := by obtain ⟨-, -, -, a, -⟩ := t.cells; exact a
  have T := Lib.hid t
  have D0 := Lib.hid d
  have OK := Lib.hid ok
  clear t d ok
  go_enter Tryz.func9, Tryz.ntmps9
  go_wp2_with fail
  refine (sready_ok x c0 d0 sb db eb cb pm blk s D N w T.out D0.out OK.out.dead OK.out.up).mono ?_
  rintro e w1 ⟨rfl, rfl⟩
  go_wp2_with fail
  refine (keys_call w pm).mono ?_
  rintro e w1 ⟨rfl, rfl⟩
  go_wp2_with fail
  refine (sorted_call T.out.vm hcnt).mono ?_
  rintro e w2 ⟨v, ks, rfl, hlen, hnd, hmem, hrow, hb2⟩
  have hb : Below w.heap.size w w2 := ((Below.refl _ w).alloc (Nat.le_refl _) _).trans (hb2.mono (by omega))
  have mem2 : ∀ k, k ∈ ks ↔ (KOK k ∧ (s.pg k).isSome = true) := fun k => by
    rw [hmem k]
    unfold pgF
    rw [Option.isSome_map]
  have t2 := T.out.below hb (x' := paint x w.heap.size (c0 + 6)) (fun b hb => paint_old hb)
  have d2 := D0.out.below hb (x' := paint x w.heap.size (c0 + 6)) (fun b hb => paint_old hb)
  have f2 : Fr x (paint x w.heap.size (c0 + 6)) (PC c0 d0) w w2 := Fr.of_below hb PC6
  have hcol : ∀ b, v.ownBlock = some b → paint x w.heap.size (c0 + 6) b = c0 + 6 := fun b hb => paint_new (Nat.le_trans (Nat.le_succ _) (hrow.lt b hb).1)
  obtain ⟨aT, cT, rfl⟩ := own_shape hrow
  have T2 := Lib.hid t2
  have D2 := Lib.hid d2
  have F2 := Lib.hid f2
  have HROW := Lib.hid (own_base hrow (Nat.zero_le _))
  have HCOL := Lib.hid hcol
  have MEM := Lib.hid mem2
  clear hlen hmem hrow hb2 hb mem2 t2 d2 f2 hcol T D0 q3
  generalize paint x w.heap.size (c0 + 6) = x2 at T2 D2 F2 HCOL
  go_wp2_with fail
  have hkl : ks.length ≤ 2 * s.cnt := by
    have h1 := len_sub (l := ks) (m := heldL s.arc) hnd (fun a ha => (mem_heldL _ _).2 ((OK.out.held a).1 ((MEM.out a).1 ha).2))
    rw [← OK.out.cnt] at h1
    omega
  have hkl2 : ks.length ≤ s.cnt := by
    have h1 := len_sub (l := ks) (m := heldL s.arc) hnd (fun a ha => (mem_heldL _ _).2 ((OK.out.held a).1 ((MEM.out a).1 ha).2))
    rw [← OK.out.cnt] at h1
    exact h1
  clear hnd hkl
  go_loopw [19] (fun i wr => ∃ j : Nat, i = .int .i64 j ∧ j ≤ ks.length ∧ ∃ xr, Fr x xr (PC c0 d0) w wr ∧ TI xr c0 wr sb db eb cb pm blk (stS s D (ks.take j)).1 (N + 2 * j) ∧ DIs xr d0 wr db (stS s D (ks.take j)).2 (N + 2 * j) ∧ wr.ownsRow 0 3 1 (.slice aT ks.length cT) ks.length (ks.map fun k => Value.int .i64 k) ∧ (∀ b, (Value.slice aT ks.length cT).ownBlock = some b → xr b = c0 + 6)) (fun i _ => ks.length - (intOf i).toNat)
  case atStart => exact ⟨0, rfl, Nat.zero_le _, x2, F2.out, T2.out, D2.out, HROW.out, HCOL.out⟩
  case round => as_aux_lemma =>
    obtain ⟨j, rfl, hj, xr, fr, tr, dr, rr, cr⟩ := hrel
    have W := stS_ok OK.out (ks.take j)
    by_cases hlt : j < ks.length
    · have e1 : ks.take (j + 1) = ks.take j ++ [ks[j]] := List.take_succ_eq_append_getElem hlt
      have hst : stS s D (ks.take (j + 1)) = wrS (stS s D (ks.take j)) ks[j] := by rw [e1, stS_snoc]
      obtain ⟨hkk, hks⟩ := (MEM.out ks[j]).1 (List.getElem_mem hlt)
      obtain ⟨aa, cc, hvv, hlm, hcells⟩ := keys_open rr
      obtain ⟨rfl, -, rfl⟩ := Value.slice.inj hvv
      obtain ⟨g, rfl, hg, -, kc⟩ := hcells.out j hlt
      obtain ⟨k, hk⟩ : ∃ k, ks[j] = k := ⟨_, rfl⟩
      rw [hk] at hst hkk hks kc
      obtain ⟨p, hp⟩ := Option.isSome_iff_exists.1 ((W.some_ k).trans hks)
      have hl := pg_look tr hkk hp
      have p1 := (tr.page hkk hp).2.1
      have q3 : wr.cell? ⟨sb, 3, none⟩ = some (.map (some pm)) := by obtain ⟨-, -, -, a, -⟩ := tr.cells; exact a
      generalize stS s D (ks.take j) = st at tr dr W hst hp
      obtain ⟨s1, D1⟩ := st
      dsimp only at tr dr W hp
      have WW := Lib.hid W
      have HST := Lib.hid hst
      have HKK := Lib.hid hkk
      have HP := Lib.hid hp
      have FR := Lib.hid fr
      have TR := Lib.hid tr
      have DR := Lib.hid dr
      have RR := Lib.hid rr
      have CR := Lib.hid cr
      clear W hst hkk hks hp fr tr dr rr cr e1 hk hvv hlm hcells
      cases hd : p.dirty with
      | false =>
        rw [hd] at p1
        have ES : Hid (stS s D (ks.take (j + 1)) = (s1, D1)) := Lib.hid (by rw [HST.out, wrS_clean HP.out hd])
        clear hd
        go_wp2_with fail
        refine (write_clean sb (blk k) k wr p1).mono ?_
        rintro e w4 ⟨rfl, rfl⟩
        go_wp2_with fail
        go_roundw
        case rel => exact ⟨j + 1, by go_num, by omega, xr, FR.out, by rw [ES.out]; exact TR.out.mono (by omega), by rw [ES.out]; exact DR.out.mono (by omega), RR.out, CR.out⟩
        case measure => simp [intOf]; omega
      | true =>
        rw [hd] at p1
        have ES : Hid (stS s D (ks.take (j + 1)) = ({ setPg s1 k { p with dirty := false } with written := s1.written + 1 }, D1.write k p.text)) := Lib.hid (by rw [HST.out, wrS_dirty HP.out hd])
        obtain ⟨z0, -, -, -, -, -, -, z7, -, -, -, -, zf⟩ := TR.out.cells
        obtain ⟨m0, -, -, mf⟩ := TR.out.page HKK.out HP.out
        have hpg := TR.out.pgs k p HKK.out HP.out
        have hw : s1.written ≤ N + 2 * j := TR.out.b3
        have HKEY := WW.out.ok.key k p HP.out
        clear hd
        go_wp2_with fail
        refine (write_dirty xr d0 sb db (blk k) D1 (N + 2 * j) s1.written p.text k wr DR.out WW.out.ok.dev WW.out.ok.up HKEY.1 HKEY.2 (WW.out.ok.text k p HP.out) (by omega) z0 z7 zf (by omega) m0 p1 mf (by rw [TR.out.xs]; exact np2 _ ⟨⟨by omega, by omega⟩, by omega⟩) (by rw [hpg.2]; exact np2 _ ⟨⟨by omega, by omega⟩, by omega⟩)).mono ?_
        rintro e w4 ⟨rfl, x4, W4, f4, d4, rfl⟩
        have t4 := TR.out.frame f4 (fun e he hc => np1 e hc he)
        have C := t4.setAt 7 (.int .i64 ((s1.written + 1 : Nat) : Int)) { s1 with written := s1.written + 1 } (N + 2 * (j + 1)) (by omega) rfl rfl rfl rfl (by have := t4.b1; exact Nat.le_trans this (by omega)) (by have := t4.b2; exact Nat.le_trans this (by omega)) (by show s1.written + 1 ≤ N + 2 * (j + 1); omega) (by have := t4.b4; exact Nat.le_trans this (by omega)) (by have := t4.b5; exact Nat.le_trans this (by omega))
        have hpg5 := (C.2.pgs k p HKK.out HP.out).1
        have hset : ((W4.setCell ⟨sb, 7, none⟩ (.int .i64 ((s1.written + 1 : Nat) : Int))).setCell ⟨blk k, 1, none⟩ (.bool false)).heap[blk k]? = some (.cells (pgCells { p with dirty := false }) 143 (0, 0)) := by
          rw [heap_setCell_same _ _ 1 _ _ _ hpg5]
          show some (Obj.cells #[.string p.text, .bool false, .int .i64 p.pins] _ _) = _
          rfl
        have S := C.2.setPage HKK.out (by show (s1.pg k).isSome = true; rw [HP.out]; rfl) { p with dirty := false } (grownBy_setCell_at _ (blk k) 1 (.bool false)) (by simp) hset (Nat.le_refl _) (by have := t4.b6 k p HKK.out HP.out; show p.pins ≤ N + 2 * (j + 1); omega)
        have d5 := ((d4.frame C.1 (fun e he hc => np1 e he hc)).frame S.1 (fun e he hc => np1 e he hc)).mono (show N + 2 * j + 2 ≤ N + 2 * (j + 1) by omega)
        have f5 : Fr xr x4 (PD c0 d0) wr _ := ((f4.mono (DC_PD c0 d0)).trans (C.1.mono (TC_PD c0 d0))).trans (S.1.mono (TC_PD c0 d0))
        have n6 : ¬ PD c0 d0 (c0 + 6) := fun hc => not6 hcd _ hc rfl
        have r5 := row_frame f5 n6 RR.out CR.out
        have F5 := Lib.hid (FR.out.trans (f5.mono (PD_PC c0 d0)))
        have T5 := Lib.hid S.2
        have D5 := Lib.hid d5
        have R5 := Lib.hid r5
        clear z0 z7 zf m0 mf hpg f4 d4 t4 C hpg5 hset S d5 f5 n6 r5
        go_wp2_with fail
        go_roundw
        case rel => exact ⟨j + 1, by go_num, by omega, x4, F5.out, by rw [ES.out]; exact T5.out, by rw [ES.out]; exact D5.out, R5.out.1, R5.out.2⟩
        case measure => simp [intOf]; omega
    · obtain rfl : j = ks.length := by omega
      rw [List.take_length] at tr dr W
      obtain ⟨q0, -⟩ := tr.cells
      have FR := Lib.hid fr
      have TR := Lib.hid tr
      have DR := Lib.hid dr
      have WW := Lib.hid W
      clear fr tr dr rr cr W
      go_wp2_with fail
      refine (Flush_any xr d0 db _ (N + 2 * ks.length) wr DR.out WW.out.ok.dev WW.out.ok.up (by omega)).mono ?_
      rintro e w4 ⟨rfl, x4, f4, d4⟩
      have t4 := TR.out.frame f4 (fun e he hc => np1 e hc he)
      obtain ⟨-, -, -, -, -, -, -, -, -, -, -, q11, qf⟩ := t4.cells
      rw [WW.out.ok.dead] at q11
      have F4 := Lib.hid (FR.out.trans (f4.mono (fun e he => PD_PC c0 d0 e (.inr he))))
      have T4 := Lib.hid t4
      have D4 := Lib.hid d4
      have q11f := qf 11
      clear f4 t4 d4 q0 qf
      go_wp2_with fail
      refine (down_ok w4 sb q11 q11f).mono ?_
      rintro e w5 ⟨rfl, rfl⟩
      have C := T4.out.setAt 11 (.bool false) (stS s D ks).1 (N + 2 * ks.length) (Nat.le_refl _) (by unfold spCells; rw [WW.out.ok.dead]; rfl) rfl rfl rfl T4.out.b1 T4.out.b2 T4.out.b3 T4.out.b4 T4.out.b5
      have R := Lib.hid C
      clear C
      go_wp2_with fail
      go_ret
      exact ⟨rfl, ks, MEM.out, x4, F4.out.trans (R.out.1.mono (fun e he => PD_PC c0 d0 e (.inl he))), ⟨cb, pm, blk, R.out.2.mono (by omega)⟩, (D4.out.frame R.out.1 (fun e he hc => np1 e he hc)).mono (by omega)⟩

end Go.Proofs.YtbgbomlmgkgkoaaGreat.arcI
