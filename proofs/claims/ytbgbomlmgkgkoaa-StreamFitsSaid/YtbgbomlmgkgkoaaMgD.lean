/- stream: the library's text builder; ReadAt. stream: the law's awake(). Statement StreamFits: the walk of the law. -/
import Derived.Test.YtbgbomlmgkgkoaaMgC
import Derived.Shelf.RegionOpenPlain
import Derived.Lib.Walk
import Derived.Lib.Builder
import Derived.Lib.UnsafeStr
import Derived.WalkKit
import Derived.Laws.Externs
namespace Go.Proofs.Ytbgbomlmgkgkoaa.st
open Go.RowKit Go.Proofs.Ytbgbomlmgkgkoaa.own Go.Proofs.Ytbgbomlmgkgkoaa.dv Go.Proofs.Ytbgbomlmgkgkoaa.po Go.Proofs.Ytbgbomlmgkgkoaa.arcI

section
set_option maxRecDepth 100000
set_option maxHeartbeats 1000000
theorem str_exact (b g cap : Nat) (l : List UInt8) (sz : Nat) (w : World) (h0 : l ≠ []) (hcap : cap ≠ 0) (hn : l.length ≤ sz) (h63 : l.length ≤ 9223372036854775807)
    (c1 : w.cell? ⟨b, 1, none⟩ = some (.slice (some ⟨g, 0, none⟩) l.length cap)) (hsh : w.shape? g = some (5, sz))
    (hcell : ∀ j x, l[j]? = some x → w.cell? ((⟨g, 0, none⟩ : Addr).add j) = some (.int .u8 x.toNat)) :
    Calls Try.prog 89 #[.pointer (some ⟨b, 0, none⟩)] w fun e w' => e = .returned (.string ⟨l.toArray⟩) ∧ w' = w.drew.freeze ⟨g, 0, none⟩ l.length := by
  have c1' : w.drew.cell? ⟨b, 1, none⟩ = some (.slice (some ⟨g, 0, none⟩) l.length cap) := c1
  have hSD : (Builtin.unsafeSliceData_ #[72] 216 #[.slice (some ⟨g, 0, none⟩) l.length cap]).run Try.prog w.drew = .ok (.pointer (some ⟨g, 0, none⟩)) w.drew :=
    Lib.run_unsafeSliceData_row _ _ _ _ _ _ hcap
  have hUS : (Builtin.unsafeString_ #[216, 3] 9 #[.pointer (some ⟨g, 0, none⟩), .int .i64 l.length]).run Try.prog w.drew = .ok (.string ⟨l.toArray⟩) (w.drew.freeze ⟨g, 0, none⟩ l.length) :=
    Lib.run_unsafeString_row w.drew _ _ _ 5 Try.underlying216 (by kernel_rfl) g sz hsh l h0 hn h63 hcell
  have mixed : Try.prog.follows .mixedOrders = true := by kernel_rfl
  clear c1 hcell hsh hcap
  go_enter Try.func89, Try.ntmps89
  go_wp2
  go_region_o
  all_goals (go_wp2; go_ret; exact ⟨rfl, rfl⟩)

theorem str_none (b : Nat) (w : World) (c1 : w.cell? ⟨b, 1, none⟩ = some (.slice none 0 0)) :
    Calls Try.prog 89 #[.pointer (some ⟨b, 0, none⟩)] w fun e w' => e = .returned (.string ⟨#[]⟩) ∧ Below w.heap.size w w' := by
  have c1' : w.drew.cell? ⟨b, 1, none⟩ = some (.slice none 0 0) := c1
  have hSD : (Builtin.unsafeSliceData_ #[72] 216 #[.slice none 0 0]).run Try.prog w.drew = .ok (.pointer none) w.drew := Lib.run_unsafeSliceData_nil _ _ _ _ _
  have hUS : (Builtin.unsafeString_ #[216, 3] 9 #[.pointer none, .int .i64 0]).run Try.prog w.drew = .ok (.string ⟨#[]⟩) w.drew := Lib.run_unsafeString_none w.drew _ _ _ none
  have mixed : Try.prog.follows .mixedOrders = true := by kernel_rfl
  clear c1
  go_enter Try.func89, Try.ntmps89
  go_wp2
  go_region_o
  all_goals (go_wp2; go_ret; exact ⟨rfl, Below.drew (Below.refl _ w)⟩)

theorem cc_used (b : Nat) (w : World) (h0 : w.cell? ⟨b, 0, none⟩ = some (.pointer (some ⟨b, 0, none⟩))) :
    Calls Try.prog 120 #[.pointer (some ⟨b, 0, none⟩)] w fun e w' => e = .returned (.tuple #[]) ∧ w' = w := by
  obtain ⟨j, hj, _⟩ := Option.map_eq_some_iff.1 (show (Try.prog.info? 165).map (·.size) = some 2 by kernel_rfl)
  go_enter Try.func120, Try.ntmps120
  go_wp2
  rw [Lib.run_neq_ptr_same w _ Try.underlying163 hj]
  go_wp2
  go_end0
  exact ⟨rfl, rfl⟩
theorem cc_fresh (b : Nat) (w : World) (h0 : w.cell? ⟨b, 0, none⟩ = some (.pointer none)) (hsh : w.shape? b = some (165, 2)) (hfz : w.frozen? ⟨b, 0, none⟩ = false) :
    Calls Try.prog 120 #[.pointer (some ⟨b, 0, none⟩)] w fun e w' => e = .returned (.tuple #[]) ∧ w' = w.setCell ⟨b, 0, none⟩ (.pointer (some ⟨b, 0, none⟩)) := by
  obtain ⟨j, hj, hjs⟩ := Option.map_eq_some_iff.1 (show (Try.prog.info? 165).map (·.size) = some 2 by kernel_rfl)
  go_enter Try.func120, Try.ntmps120
  go_wp2
  rw [Lib.run_to_unsafe w ⟨b, 0, none⟩ Try.underlying163 Try.underlying236 hj (by rw [hjs]; decide) hsh (Nat.zero_lt_succ 1)]
  simp only [Result.andThen]
  rw [Oper.upon_value]
  go_wp2
  rw [run_callFunc_extern Try.func141 (by kernel_rfl) (by kernel_rfl) (by kernel_rfl) (e := Extern.AbiNoEscape.same) (by kernel_rfl)]
  rw [Lib.run_noEscape]
  simp only [Result.andThen]
  rw [Oper.upon_value]
  go_wp2
  rw [Lib.run_from_unsafe w ⟨b, 0, none⟩ Try.underlying236 Try.underlying163 hj hsh (by kernel_rfl)]
  simp only [Result.andThen]
  rw [Oper.upon_value]
  go_wp2
  go_end0
  exact ⟨rfl, rfl⟩

end

/-- a text builder that has been given some bytes -/
structure BL (x : Nat → Nat) (r1 : Nat) (w : World) (ob : Nat) (l : List UInt8) : Prop where
  ex : ∃ pv sv, w.heap[ob]? = some (.cells #[pv, sv] 165 (0, 0)) ∧ (pv = .pointer none ∨ pv = .pointer (some ⟨ob, 0, none⟩)) ∧ w.ownsRow 0 5 1 sv l.length (bv l) ∧ (∀ b, sv.ownBlock = some b → x b = r1 + 1) ∧ (l = [] → sv = .slice none 0 0)
  xo : x ob = r1
theorem BL.frame {x x' : Nat → Nat} {C : Nat → Prop} {r1 : Nat} {w w' : World} {ob : Nat} {l : List UInt8} (h : BL x r1 w ob l) (hf : Fr x x' C w w') (h0 : ¬ C r1) (h1 : ¬ C (r1 + 1)) : BL x' r1 w' ob l := by
  obtain ⟨⟨pv, sv, hb, hp, ho, hx, hn⟩, xo⟩ := h
  obtain ⟨a, b⟩ := row_frame hf h1 ho hx
  exact ⟨⟨pv, sv, (hf.old _ (lt_of_block hb) (by rw [xo]; exact h0)).trans hb, hp, a, b, hn⟩, (hf.col _ (lt_of_block hb)).trans xo⟩
/-- its own pointer is laid -/
theorem BL.self {x : Nat → Nat} {r1 : Nat} {w : World} {ob : Nat} {l : List UInt8} (h : BL x r1 w ob l) : BL x r1 (w.setCell ⟨ob, 0, none⟩ (.pointer (some ⟨ob, 0, none⟩))) ob l ∧ Fr x x (fun e => e = r1) w (w.setCell ⟨ob, 0, none⟩ (.pointer (some ⟨ob, 0, none⟩))) := by
  obtain ⟨⟨pv, sv, hb, hp, ho, hx, hn⟩, xo⟩ := h
  refine ⟨⟨⟨.pointer (some ⟨ob, 0, none⟩), sv, ?_, .inr rfl, ?_, hx, hn⟩, xo⟩, Fr.same rfl rfl rfl (by simp) (fun b _ hC => Below.heap_setCell w _ _ _ (by rintro rfl; exact hC xo))⟩
  · rw [heap_setCell_same w ob 0 _ _ _ hb]; rfl
  · exact ho.kept (grownBy_setCell_at w ob 0 _) (.inr (fun e => by have a := hx ob e; omega))
theorem cc_any (x : Nat → Nat) (r1 : Nat) (w : World) (ob : Nat) (l : List UInt8) (h : BL x r1 w ob l) :
    Calls Try.prog 120 #[.pointer (some ⟨ob, 0, none⟩)] w fun e w' => e = .returned (.tuple #[]) ∧ Fr x x (fun e => e = r1) w w' ∧ BL x r1 w' ob l := by
  have S := h.self
  obtain ⟨⟨pv, sv, hb, hp, ho, hx, hn⟩, xo⟩ := h
  rcases hp with rfl | rfl
  · refine (cc_fresh ob w (by rw [cell_of_row _ _ _ _ _ _ hb]; rfl) (by unfold World.shape?; rw [hb]; rfl) (frozen_of_row _ _ _ _ _ hb)).mono ?_
    rintro e w' ⟨rfl, rfl⟩
    exact ⟨rfl, S.2, S.1⟩
  · refine (cc_used ob w (by rw [cell_of_row _ _ _ _ _ _ hb]; rfl)).mono ?_
    rintro e w' ⟨rfl, rfl⟩
    exact ⟨rfl, Fr.refl _ _ _, ⟨⟨_, sv, hb, .inr rfl, ho, hx, hn⟩, xo⟩⟩

theorem bv_append9 (a b : List UInt8) : bv (a ++ b) = bv a ++ bv b := by simp [bv]
set_option maxRecDepth 100000 in
set_option maxHeartbeats 1600000 in
theorem WriteString_any (x : Nat → Nat) (r1 : Nat) (w : World) (ob : Nat) (l : List UInt8) (s : ByteArray) (h : BL x r1 w ob l) (hs : 0 < s.size) (hl : l.length + s.size ≤ 1099511627776) :
    Calls Try.prog 88 #[.pointer (some ⟨ob, 0, none⟩), .string s] w fun e w' => (∃ v, e = .returned (.tuple v)) ∧ ∃ x', Fr x x' (fun e => e = r1 ∨ e = r1 + 1) w w' ∧ BL x' r1 w' ob (l ++ s.data.toList) := by
  obtain ⟨i0, hi, hz0, hz1, hz2⟩ := info_parts Try.infoByte9
  have H := Lib.hid h
  clear h
  go_enter Try.func88, Try.ntmps88
  go_wp2_with fail
  refine (cc_any x r1 w ob l H.out).mono ?_
  rintro e w1 ⟨rfl, f1, h1⟩
  have F1 := Lib.hid f1
  have B1 := Lib.hid h1
  clear H f1
  obtain ⟨⟨pv, sv, hb, hp, ho, hx, hn⟩, xo⟩ := h1
  have k1 : w1.cell? ⟨ob, 1, none⟩ = some sv := by rw [cell_of_row _ _ _ _ _ _ hb]; rfl
  have kf : w1.frozen? ⟨ob, 1, none⟩ = false := frozen_of_row _ _ _ _ _ hb
  have HB := Lib.hid hb
  have HP := Lib.hid hp
  have HO := Lib.hid ho
  have HX := Lib.hid hx
  have XO := Lib.hid xo
  clear hb hp hx hn xo
  go_wp2_with (at_builtin; refine wpList_append_o _ rfl _ _ 72 9 rfl 0 5 i0 _ hz1 hz0 rfl (by omega) sv l.length (bv l) rfl ho _ s.size (bv s.data.toList) rfl (Go.Proofs.Ytbgbomlmgkgkoaa.ev.SrcK.ofSrc Try.underlying72 hi (by rw [hz1]; exact Src.ofString _ Try.underlying9 s)) (bv_one _) hl (Nat.zero_le _) ?_)
  intro v9 w9 own9 hg9 hw9 old9
  obtain ⟨a9, p9, hv9⟩ := own_shape own9
  subst hv9
  have O9 := Lib.hid own9
  have K9 := Lib.hid hg9
  have W9 := Lib.hid hw9
  have g9 := (hg9.block ob (lt_of_block HB.out) (fun e => by have a := HX.out ob e.symm; have b := XO.out; omega)).trans HB.out
  have c9 : w9.cell? ⟨ob, 1, none⟩ = some sv := by rw [cell_of_row _ _ _ _ _ _ g9]; rfl
  have f9 : w9.frozen? ⟨ob, 1, none⟩ = false := frozen_of_row _ _ _ _ _ g9
  have G9 := Lib.hid g9
  clear own9 hg9 hw9 old9 g9 ho k1 kf
  go_wp2_with fail
  refine bodyPost_ret (v := .tuple #[.int .i64 (s.size : Int), .nilIface]) (by simp [results, Try.f88, go_sem]) rfl ?_
  have hro : ∀ b, b < w1.heap.size → sv.ownBlock = some b → x b = r1 + 1 := fun b _ e => HX.out b e
  have hK : Keeps w1 w9 (fun b => sv.ownBlock = some b) := (Keeps.refl w1 _).grown K9.out (fun k hk => .inl hk)
  have f1 : Fr x (paint x w1.heap.size (r1 + 1)) (fun e => e = r1 + 1) w1 w9 := hK.fr rfl hro
  have x9 : paint x w1.heap.size (r1 + 1) ob = r1 := by rw [paint_old (lt_of_block HB.out)]; exact XO.out
  have xr9 : ∀ b, (Value.slice a9 (l.length + s.size) p9).ownBlock = some b → paint x w1.heap.size (r1 + 1) b = r1 + 1 := fun b hb => by
    rcases W9.out with e | e
    · rw [hb] at e
      rw [paint_old (HO.out.lt b e.symm).2]; exact HX.out b e.symm
    · rw [hb] at e
      have := Option.some.inj e
      exact paint_new (by omega)
  have f2 : Fr (paint x w1.heap.size (r1 + 1)) (paint x w1.heap.size (r1 + 1)) (fun e => e = r1) w9 (w9.setCell ⟨ob, 1, none⟩ (.slice a9 (l.length + s.size) p9)) := Fr.same rfl rfl rfl (by simp) (fun b _ hC => Below.heap_setCell w9 _ _ _ (by rintro rfl; exact hC x9))
  have hl9 : (l ++ s.data.toList).length = l.length + s.size := by
    have q : s.data.toList.length = s.size := Array.length_toList
    rw [List.length_append, q]
  refine ⟨⟨_, rfl⟩, _, (F1.out.mono (fun e he => .inl he)).trans ((f1.mono (fun e he => .inr he)).trans (f2.mono (fun e he => .inl he))), ⟨⟨pv, .slice a9 (l.length + s.size) p9, ?_, HP.out, ?_, xr9, fun q => ?_⟩, x9⟩⟩
  · rw [heap_setCell_same w9 ob 1 _ _ _ G9.out]; rfl
  · rw [hl9, bv_append9]
    exact O9.out.kept (grownBy_setCell_at w9 ob 1 _) (.inr (fun e => by have a := xr9 ob e; omega))
  · have q2 := congrArg List.length q
    rw [hl9, List.length_nil] at q2
    omega

/-- what a builder has, told -/
theorem String_any (x : Nat → Nat) (r1 : Nat) (w : World) (ob : Nat) (l : List UInt8) (h : BL x r1 w ob l) (hl : l.length ≤ 1099511627776) :
    Calls Try.prog 89 #[.pointer (some ⟨ob, 0, none⟩)] w fun e w' => e = .returned (.string ⟨l.toArray⟩) ∧ ∃ x', Fr x x' (fun e => e = r1 ∨ e = r1 + 1) w w' := by
  obtain ⟨⟨pv, sv, hb, hp, ho, hx, hn⟩, xo⟩ := h
  by_cases hl0 : l = []
  · have hsv := hn hl0
    subst hsv
    subst hl0
    refine (str_none ob w (by rw [cell_of_row _ _ _ _ _ _ hb]; rfl)).mono ?_
    rintro e w' ⟨rfl, hb'⟩
    exact ⟨rfl, _, Fr.of_below hb' (.inl rfl)⟩
  · rcases ho.2 with ⟨hv, hz⟩ | ⟨g, cap, cur, hv, hbg, hg, hnc, hcm, hcs, htake⟩
    · exact absurd (List.eq_nil_of_length_eq_zero hz) hl0
    · subst hv
      have hl1 : 0 < l.length := List.length_pos_iff.2 hl0
      have hxg := hx g rfl
      refine (str_exact ob g cap l cur.size w hl0 (by omega) (by omega) (by omega) (by rw [cell_of_row _ _ _ _ _ _ hb]; rfl) (by unfold World.shape?; rw [hg]) (fun j u hj => ?_)).mono ?_
      · have hjl : j < l.length := (List.getElem?_eq_some_iff.1 hj).1
        have q : (cur.toList.take (l.length * 1))[j]? = (bv l)[j]? := by rw [htake]
        rw [Nat.mul_one, List.getElem?_take, if_pos hjl] at q
        rw [Addr.add_lit, Nat.zero_add, cell_of_row _ _ _ _ _ _ hg, ← Array.getElem?_toList, q]
        simp [bv, hj]
      · rintro e w' ⟨rfl, rfl⟩
        obtain ⟨-, z2, z3, z4, z5, z6⟩ := Go.Proofs.Ytbgbomlmgkgkoaa.ev.freeze_heap (w := w.drew) (a := ⟨g, 0, none⟩) (n := l.length) (by omega) (show w.drew.heap[g]? = _ from hg)
        exact ⟨rfl, x, Fr.same z3 z4 z5 z6 (fun b _ hC => z2 b (by rintro rfl; exact hC (.inr hxg)))⟩

def RC (c0 d0 q0 : Nat) : Nat → Prop := fun e => PC c0 d0 e ∨ e = q0 ∨ e = q0 + 1
/-- what stands in a round of ReadAt -/
structure RR (x : Nat → Nat) (c0 d0 q0 : Nat) (w : World) (rb sb db eb N m st ln L S ob : Nat) (V : Int → ByteArray) (l : List UInt8) (wr : World) : Prop where
  ex : ∃ x', Fr x x' (RC c0 d0 q0) w wr ∧ SV x' c0 d0 wr sb db eb N m V ∧ BL x' q0 wr ob l ∧ RI wr rb sb st ln L S ∧ x' rb = x rb
theorem RR.mono {x : Nat → Nat} {c0 d0 q0 : Nat} {w : World} {rb sb db eb N m st ln L S ob : Nat} {V : Int → ByteArray} {l : List UInt8} {wr : World} (h : RR x c0 d0 q0 w rb sb db eb N m st ln L S ob V l wr) {N' : Nat} (hN : N ≤ N') : RR x c0 d0 q0 w rb sb db eb N' m st ln L S ob V l wr := by
  obtain ⟨x', f, s, b, r, e⟩ := h; exact ⟨x', f, s.mono hN, b, r, e⟩
theorem RR.below {x : Nat → Nat} {c0 d0 q0 : Nat} {w : World} {rb sb db eb N m st ln L S ob : Nat} {V : Int → ByteArray} {l : List UInt8} {wr : World} (h : RR x c0 d0 q0 w rb sb db eb N m st ln L S ob V l wr) (hq : ¬ PC c0 d0 q0) {wc : World} (hb : Below wr.heap.size wr wc) : RR x c0 d0 q0 w rb sb db eb N m st ln L S ob V l wc := by
  obtain ⟨x', f, s, b, r, e⟩ := h
  have f2 : Fr x' (paint x' wr.heap.size q0) (fun e => e = q0) wr wc := Fr.of_below hb rfl
  refine ⟨_, f.trans (f2.mono (fun e he => .inr (.inl he))), s.frame f2 (fun e he hc => hq (by rw [← hc]; exact PD_PC c0 d0 _ he)), ?_, r.frame (hb.block _ (lt_of_block r)), by rw [paint_old (lt_of_block r)]; exact e⟩
  obtain ⟨⟨pv, sv, hb1, hp, ho, hx, hn⟩, xo⟩ := b
  exact ⟨⟨pv, sv, (hb.block _ (lt_of_block hb1)).trans hb1, hp, own_below ho hb, fun b hb2 => by rw [paint_old (ho.lt b hb2).2]; exact hx b hb2, hn⟩, by rw [paint_old (lt_of_block hb1)]; exact xo⟩
theorem RR.read {x : Nat → Nat} {c0 d0 q0 : Nat} {w : World} {rb sb db eb N m st ln L S ob : Nat} {V : Int → ByteArray} {l : List UInt8} {wr : World} (h : RR x c0 d0 q0 w rb sb db eb N m st ln L S ob V l wr) (hcd : c0 + 9 < d0 ∨ d0 + 2 < c0) (hq0 : ¬ PC c0 d0 q0) (hq1 : ¬ PC c0 d0 (q0 + 1)) (hxr : ¬ PC c0 d0 (x rb)) {no : Int} (h0 : 0 ≤ no) (h1 : no < 24) (hN : N + 8 < 1099511627776) :
    Calls Try.prog 11 #[.pointer (some ⟨sb, 0, none⟩), .int .i64 no] wr fun e w' => e = .returned (.tuple #[.string (V no), .int .i64 0]) ∧ RR x c0 d0 q0 w rb sb db eb (N + 8) m st ln L S ob V l w' := by
  obtain ⟨x', f, s, b, r, e⟩ := h
  refine (s.read hcd h0 h1 hN).mono ?_
  rintro e w' ⟨rfl, x2, f2, s2⟩
  exact ⟨rfl, x2, f.trans (f2.mono (fun e he => .inl he)), s2, b.frame f2 hq0 hq1, r.frame (f2.old _ (lt_of_block r) (by rw [‹x' rb = x rb›]; exact hxr)), (f2.col _ (lt_of_block r)).trans ‹x' rb = x rb›⟩
theorem RR.write {x : Nat → Nat} {c0 d0 q0 : Nat} {w : World} {rb sb db eb N m st ln L S ob : Nat} {V : Int → ByteArray} {l : List UInt8} {wr : World} (h : RR x c0 d0 q0 w rb sb db eb N m st ln L S ob V l wr) (hq0 : ¬ PC c0 d0 q0) (hq1 : ¬ PC c0 d0 (q0 + 1)) (hxr : x rb ≠ q0 ∧ x rb ≠ q0 + 1) (t : ByteArray) (ht : 0 < t.size) (hl : l.length + t.size ≤ 1099511627776) :
    Calls Try.prog 88 #[.pointer (some ⟨ob, 0, none⟩), .string t] wr fun e w' => (∃ v, e = .returned (.tuple v)) ∧ RR x c0 d0 q0 w rb sb db eb N m st ln L S ob V (l ++ t.data.toList) w' := by
  obtain ⟨x', f, s, b, r, e⟩ := h
  refine (WriteString_any x' q0 wr ob l t b ht hl).mono ?_
  rintro e w' ⟨he, x2, f2, b2⟩
  exact ⟨he, x2, f.trans (f2.mono (fun e he => .inr he)), s.frame f2 (fun e he hc => by rcases hc with rfl | rfl; exact hq0 (PD_PC c0 d0 _ he); exact hq1 (PD_PC c0 d0 _ he)), b2, r.frame (f2.old _ (lt_of_block r) (by rw [‹x' rb = x rb›]; rintro (q | q); exact hxr.1 q; exact hxr.2 q)), (f2.col _ (lt_of_block r)).trans ‹x' rb = x rb›⟩
theorem RR.cells {x : Nat → Nat} {c0 d0 q0 : Nat} {w : World} {rb sb db eb N m st ln L S ob : Nat} {V : Int → ByteArray} {l : List UInt8} {wr : World} (h : RR x c0 d0 q0 w rb sb db eb N m st ln L S ob V l wr) : wr.cell? ⟨rb, 0, none⟩ = some (.pointer (some ⟨sb, 0, none⟩)) ∧ wr.cell? ⟨rb, 1, none⟩ = some (.int .i64 (st : Int)) := by
  obtain ⟨x', f, s, b, r, e⟩ := h; exact ⟨r.cells.1, r.cells.2.1⟩

set_option maxRecDepth 100000 in
set_option maxHeartbeats 6400000 in
theorem ReadAt_any (x : Nat → Nat) (q0 c0 d0 : Nat) (w : World) (rb sb db eb N m st ln L S : Nat) (V : Int → ByteArray) (hs : SV x c0 d0 w sb db eb N m V) (hri : RI w rb sb st ln L S) (hcd : c0 + 9 < d0 ∨ d0 + 2 < c0) (hq0 : ¬ PC c0 d0 q0) (hq1 : ¬ PC c0 d0 (q0 + 1)) (hxr : ¬ PC c0 d0 (x rb)) (hxq : x rb ≠ q0 ∧ x rb ≠ q0 + 1)
    (h1 : 1 ≤ ln) (h2 : st + ln ≤ 24) (hL : L ≤ ln * (512 * m) - 12) (off n : Nat) (hon : off + n ≤ L) (hN : N + 8 * n + 8 < 1099511627776) :
    Calls Try.prog 67 #[.pointer (some ⟨rb, 0, none⟩), .int .i64 (off : Int), .int .i64 (n : Int)] w fun e w' => e = .returned (.tuple #[.string ⟨(readL V st (512 * m) off n).toArray⟩, .int .i64 0]) ∧ ∃ x', Fr x x' (RC c0 d0 q0) w w' ∧ SV x' c0 d0 w' sb db eb (N + 8 * n) m V := by
  have hm := hs.size
  have hmp : ln * (512 * m) ≤ 98304 := by have := Nat.mul_le_mul (show ln ≤ 24 by omega) (show 512 * m ≤ 4096 by omega); omega
  have hVs := hs.text
  have S0 := Lib.hid hs
  have R0 := Lib.hid hri
  have SZ := Lib.hid hs.Size
  obtain ⟨sz, hsz⟩ : ∃ sz, 512 * m = sz := ⟨_, rfl⟩
  have hsz1 : 512 ≤ sz ∧ sz ≤ 4096 := by omega
  rw [hsz] at hL hmp hVs SZ ⊢
  have HVS := Lib.hid hVs
  have HL := Lib.hid hL
  have hL2 : L ≤ 98304 := by omega
  clear hs hri hsz hVs hL hmp
  obtain ⟨c0', c1', -, c3', -, -⟩ := R0.out.cells
  have e0 : decide ((off : Int) < 0) = false := decide_eq_false (by omega)
  have e6 : decide ((n : Int) < 0) = false := decide_eq_false (by omega)
  have e1 : IntKind.i64.wrap ((L : Int) - (off : Int)) = ((L - off : Nat) : Int) := by rw [IntWalk.i64_in _ (by omega)]; omega
  have e2 : decide ((L : Int) < (off : Int)) = false := decide_eq_false (by omega)
  have e3 : decide (L < off) = false := decide_eq_false (by omega)
  have e4 : decide (((L - off : Nat) : Int) < (n : Int)) = false := decide_eq_false (by omega)
  have e5 : decide (L - off < n) = false := decide_eq_false (by omega)
  go_enter Try.func67, Try.ntmps67
  go_wp2_with fail
  refine SZ.out.mono ?_
  rintro e w1 ⟨rfl, rfl⟩
  go_wp2_with fail
  have hb0 : Below w.heap.size w (w.alloc (.cells #[.pointer none, .slice none 0 0] 165)) := (Below.refl _ w).alloc (Nat.le_refl _) _
  have hf0 : Fr x (paint x w.heap.size q0) (fun e => e = q0) w (w.alloc (.cells #[.pointer none, .slice none 0 0] 165)) := Fr.of_below hb0 rfl
  have RS : Hid (RR x c0 d0 q0 w rb sb db eb N m st ln L S w.heap.size V (readL V st sz off 0) (w.alloc (.cells #[.pointer none, .slice none 0 0] 165))) := Lib.hid ⟨_, hf0.mono (fun e he => .inr (.inl he)), S0.out.frame hf0 (fun e he hc => hq0 (by rw [← hc]; exact PD_PC c0 d0 _ he)), ⟨⟨_, _, World.alloc_heap_new w _, .inl rfl, World.ownsRow_nil _ _ _ _, fun b hb => by simp [Value.ownBlock] at hb, fun _ => rfl⟩, paint_new (Nat.le_refl _)⟩, R0.out.frame (hb0.block _ (lt_of_block R0.out)), paint_old (lt_of_block R0.out)⟩
  clear hb0 hf0 S0 R0 c0' c1' c3' SZ e1 e2 e3 e4 e5
  generalize World.alloc w _ = W1 at RS ⊢
  generalize hob : w.heap.size = ob at RS ⊢
  clear hob
  go_loopw [1, 2] (fun o nn wr => ∃ d : Nat, d ≤ n ∧ o = .int .i64 ((off + d : Nat) : Int) ∧ nn = .int .i64 ((n - d : Nat) : Int) ∧ RR x c0 d0 q0 w rb sb db eb (N + 8 * d) m st ln L S ob V (readL V st sz off d) wr) (fun _ nn _ => (intOf nn).toNat)
  case atStart => exact ⟨0, by omega, rfl, rfl, RS.out⟩
  case round =>
    obtain ⟨d, hd, rfl, rfl, hR⟩ := hrel
    have HR := Lib.hid hR
    obtain ⟨c0', c1'⟩ := hR.cells
    clear hR
    by_cases hlt : d < n
    · obtain ⟨o, ho⟩ : ∃ o, off + d = o := ⟨_, rfl⟩
      obtain ⟨n2, hn2⟩ : ∃ n2, n - d = n2 := ⟨_, rfl⟩
      obtain ⟨q, hq⟩ : ∃ q, o / sz = q := ⟨_, rfl⟩
      obtain ⟨r, hr⟩ : ∃ r, o % sz = r := ⟨_, rfl⟩
      rw [ho, hn2]
      have e1 : Int.tdiv (o : Int) (sz : Int) = (q : Int) := by rw [← Int.ofNat_tdiv, hq]
      have e2 : Int.tmod (o : Int) (sz : Int) = (r : Int) := by rw [← Int.ofNat_tmod, hr]
      have hqr := Nat.div_add_mod o sz
      rw [hq, hr] at hqr
      have hrs : r < sz := by rw [← hr]; exact Nat.mod_lt _ (by omega)
      have hql : q < ln := by
        rw [← hq]
        exact Nat.div_lt_of_lt_mul (by have := HL.out; rw [Nat.mul_comm]; omega)
      have hol : o ≤ 98304 := by omega
      have e3 : IntKind.i64.wrap ((st : Int) + (q : Int)) = (st : Int) + (q : Int) := IntWalk.i64_in _ (by omega)
      have hsz0 : ¬ ((sz : Int) = 0) := by omega
      have hsz9 : ¬ (sz = 0) := by omega
      have e5 : IntKind.i64.wrap (q : Int) = (q : Int) := IntWalk.i64_in _ (by omega)
      have hn3 : 0 < n2 := by omega
      have HQ := Lib.hid hq
      have HRM := Lib.hid hr
      have HQR := Lib.hid hqr
      have HO := Lib.hid ho
      have HN2 := Lib.hid hn2
      clear hq hr hqr ho hn2
      go_upto_region 8 with fail
      have R2 : wr.drew.cell? ⟨rb, 0, none⟩ = some (.pointer (some ⟨sb, 0, none⟩)) ∧ wr.drew.cell? ⟨rb, 1, none⟩ = some (.int .i64 (st : Int)) := ⟨c0', c1'⟩
      have W4B : Hid (RR x c0 d0 q0 w rb sb db eb (N + 8 * d) m st ln L S ob V (readL V st sz off d) wr.drew) := Lib.hid (HR.out.below hq0 (Below.refl _ _).drew)
      have z0 : (0 : Int) ≤ (st : Int) + (q : Int) := by omega
      have z1 : (st : Int) + (q : Int) < 24 := by omega
      have z2 : N + 8 * d + 8 < 1099511627776 := by omega
      clear HR c0' c1'
      go_region_held3 (fun w' => w'.cell? ⟨rb, 0, none⟩ = some (.pointer (some ⟨sb, 0, none⟩)) ∧ w'.cell? ⟨rb, 1, none⟩ = some (.int .i64 (st : Int)))
        (first
        | (with_reducible assumption)
        | (exact R2))
        (first
        | (go_at_call 11; with_reducible refine Calls.mono (W4B.out.read hcd hq0 hq1 hxr z0 z1 z2) ?_; rintro e w5 ⟨rfl, h5⟩; have R5 := Lib.hid h5; clear R2; have R2 := R5.out.cells; clear h5))
      clear R2 W4B
      obtain ⟨t, ht⟩ : ∃ t, V ((st : Int) + (q : Int)) = t := ⟨_, rfl⟩
      have hts : t.size = sz := by rw [← ht]; exact HVS.out _
      have HT := Lib.hid ht
      rw [ht]
      clear ht
      obtain ⟨k, hk⟩ : ∃ k, min n2 (sz - r) = k := ⟨_, rfl⟩
      have hk1 : 0 < k ∧ k ≤ n2 ∧ k ≤ sz - r := by omega
      have hk2 : n2 ≤ sz - r ∨ k = sz - r := by omega
      have HK := Lib.hid hk
      clear hk
      go_wp2_with fail
      have ek : (min (n2 : Int) ((sz - r : Nat) : Int)).toNat = k := by have := HK.out; omega
      rw [ek]
      obtain ⟨u, hu⟩ : ∃ u, (t.extract r sz).extract 0 k = u := ⟨_, rfl⟩
      have UL : Hid (u.data.toList = (t.data.toList.drop r).take k) := Lib.hid (by
        rw [← hu, extract_list, extract_list, List.drop_zero, List.take_take, Nat.sub_zero, Nat.min_eq_left (by omega)])
      have hus : u.size = k := by
        rw [← hu, ByteArray.size_extract, ByteArray.size_extract]; omega
      have HUS := Lib.hid hus
      rw [hu]
      clear hu ek
      have hrl : (readL V st sz off d).length + u.size ≤ 1099511627776 := by rw [readL_len, hus]; omega
      refine (R5.out.write hq0 hq1 hxq u (by omega) hrl).mono ?_
      rintro e w6 ⟨⟨v6, rfl⟩, h6⟩
      have R6 : Hid (RR x c0 d0 q0 w rb sb db eb (N + 8 * (d + k)) m st ln L S ob V (readL V st sz off (d + k)) w6) := Lib.hid (by
        have q1 := readL_add V st sz off d k
        have q2 := readL_chunk (V := V) (st := st) (sz := sz) (off := o) (k := k) (by omega) (by rw [HQ.out]; exact HVS.out _) (by rw [HRM.out]; omega)
        rw [HQ.out, HT.out, HRM.out, ← UL.out] at q2
        rw [HO.out, q2] at q1
        rw [q1]
        exact h6.mono (by omega))
      have e6 : IntKind.i64.wrap ((o : Int) + (k : Int)) = (o : Int) + (k : Int) := IntWalk.i64_in _ (by omega)
      have e7 : IntKind.i64.wrap ((n2 : Int) - (k : Int)) = (n2 : Int) - (k : Int) := IntWalk.i64_in _ (by have := HN2.out; omega)
      clear h6 R5 hrl
      go_wp2_with fail
      go_roundw
      case rel =>
        refine ⟨d + k, by have := HN2.out; omega, ?_, ?_, R6.out⟩
        · rw [show ((off + (d + k) : Nat) : Int) = (o : Int) + (k : Int) by have := HO.out; omega]
        · rw [show ((n - (d + k) : Nat) : Int) = (n2 : Int) - (k : Int) by have := HN2.out; omega]
      case measure => simp [intOf]; omega
    · obtain rfl : d = n := by omega
      rw [Nat.sub_self]
      obtain ⟨x5, f5, s5, b5, -, -⟩ := HR.out
      have F5 := Lib.hid f5
      have S5 := Lib.hid s5
      have B5 := Lib.hid b5
      clear f5 s5 b5 HR c0' c1'
      go_wp2_with fail
      refine (String_any x5 q0 wr ob _ B5.out (by rw [readL_len]; omega)).mono ?_
      rintro e w6 ⟨rfl, x6, f6⟩
      have F6 := Lib.hid f6
      clear f6
      go_wp2_with fail
      refine bodyPost_ret (v := .tuple #[.string ⟨(readL V st sz off d).toArray⟩, .int .i64 0]) (by simp [results, Try.f67, go_sem]) rfl ?_
      exact ⟨rfl, x6, F5.out.trans (F6.out.mono (fun e he => .inr he)), S5.out.frame F6.out (fun e he hc => by rcases hc with rfl | rfl; exact hq0 (PD_PC c0 d0 _ he); exact hq1 (PD_PC c0 d0 _ he))⟩

end Go.Proofs.Ytbgbomlmgkgkoaa.st

namespace Go.Proofs.Ytbgbomlmgkgkoaa.st
open Go.RowKit Go.Proofs.Ytbgbomlmgkgkoaa.own Go.Proofs.Ytbgbomlmgkgkoaa.dv Go.Proofs.Ytbgbomlmgkgkoaa.po Go.Proofs.Ytbgbomlmgkgkoaa.arcI

/-- a space that was made new, by what its blocks have -/
theorem SV.made {x : Nat → Nat} {c0 d0 : Nat} {w : World} {sb db eb m fr : Nat} (h : SIs x c0 d0 w sb db eb (newP fr) (newD 24 m) 0) (hm : 1 ≤ m ∧ m ≤ 8) (h1 : 1 ≤ fr) (h2 : fr ≤ 30) : ∃ V, SV x c0 d0 w sb db eb 0 m V := by
  have dk := newD_ok 24 m (by omega) hm
  exact ⟨_, _, _, h, ⟨newP_ok fr h1 (by omega) _ dk rfl, rfl, rfl, fun _ => rfl, h2⟩, fun _ => rfl⟩

theorem dbl_all (b : UInt8) (size : Nat) : ∀ (f : Nat) (t : ByteArray), (∀ x ∈ t.data.toList, x = b) → ∀ x ∈ (dbl size f t).data.toList, x = b
  | 0, _, h => h
  | f + 1, t, h => by
    show ∀ x ∈ (if t.size < size then dbl size f (t ++ t) else t).data.toList, x = b
    by_cases hs : t.size < size
    · rw [if_pos hs]
      refine dbl_all b size f _ (fun x hx => ?_)
      rw [ByteArray.data_append, Array.toList_append] at hx
      rcases List.mem_append.1 hx with hx | hx <;> exact h x hx
    · rw [if_neg hs]; exact h
theorem fill_a (size : Nat) : (fillS ⟨#[97]⟩ size).data.toList = List.replicate size 97 := by
  have hz : ∀ x ∈ (fillS ⟨#[97]⟩ size).data.toList, x = 97 := by
    unfold fillS
    rw [if_neg (show ¬ (⟨#[97]⟩ : ByteArray).size = 0 by decide)]
    intro x hx
    have h0 := dbl_all 97 size size ⟨#[97]⟩ (fun x hx => by simpa using hx)
    rw [extract_list] at hx
    exact h0 x (List.mem_of_mem_drop (List.mem_of_mem_take hx))
  exact List.eq_replicate_iff.2 ⟨by rw [Array.length_toList]; exact fillS_size ⟨#[97]⟩ size, hz⟩
theorem WZ.start {x : Nat → Nat} {v0 c0 d0 : Nat} {w : World} {wb sb db eb N m st ln : Nat} {V : Int → ByteArray} {pb xb qb : Nat} {wr : World} (h : WS x v0 c0 d0 w wb sb db eb N m st ln V (.slice none 0 0) pb xb qb [] 0 0 (onS 0 []) false wr) : WZ x v0 c0 d0 w wb sb db eb N m st ln V [] wr := by
  unfold WZ
  refine ⟨.slice none 0 0, pb, xb, qb, ?_⟩
  rw [List.length_nil, Nat.zero_div, List.drop_nil]
  exact h
theorem onS_U32 (l : List UInt8) : U32 (onS 0 l) := notU_U32 (onF_U32 l (notU_U32 ⟨by decide, by decide⟩))
theorem PD_VC : ∀ e, PD 0 20 e → ¬ VC 50 e := fun e he hc => by
  have b := hc.1
  rcases he with he | he
  · have := he.1.2; omega
  · have := he.2; omega
theorem VC_PC : ∀ e, VC 50 e → ¬ PC 0 20 e := fun e hc he => by
  have b := hc.1
  rcases he with he | he
  · have := he.2; omega
  · have := he.2; omega
theorem nPC {e : Nat} (h : 23 ≤ e) : ¬ PC 0 20 e := fun he => by
  rcases he with he | he
  · have := he.2; omega
  · have := he.2; omega
theorem PC_AQ : ∀ e, PC 0 20 e → e ≤ 95 := fun e he => by
  rcases he with he | he
  · have := he.2; omega
  · have := he.2; omega

def AQ : Nat → Prop := fun e => e ≤ 95
set_option maxRecDepth 100000 in
set_option maxHeartbeats 6400000 in
theorem awake_any (w : World) :
    Calls Try.prog 25 #[] w fun e w' => e = .returned (.bool true) ∧ Below w.heap.size w w' := by
  go_enter Try.func25, Try.ntmps25
  go_wp2_with fail
  refine (made_any (fun _ => 100) 0 20 30 (.inl (by omega)) (.inl (by omega)) (by rintro (q | q); exact absurd q.1.2 (by omega); exact absurd q.2 (by omega)) w 0 2).mono ?_
  rintro e w1 ⟨sb, db, eb, mb, rb, m, fr, x1, rfl, m1, m2, r1, r2, f1, s1⟩
  obtain ⟨V, hV⟩ := SV.made s1 (by omega) r1 (by omega)
  have S1 := Lib.hid hV
  have F1 := Lib.hid f1
  clear s1 hV f1
  go_wp2_with fail
  have hb2 : Below w1.heap.size w1 (w1.alloc (.cells #[.pointer (some ⟨db, 0, none⟩), .pointer (some ⟨sb, 0, none⟩), .pointer (some ⟨mb, 0, none⟩), .pointer (some ⟨rb, 0, none⟩)] 61)) := (Below.refl _ w1).alloc (Nat.le_refl _) _
  have f2 : Fr x1 (paint x1 w1.heap.size 45) (fun e => e = 45) w1 (w1.alloc (.cells #[.pointer (some ⟨db, 0, none⟩), .pointer (some ⟨sb, 0, none⟩), .pointer (some ⟨mb, 0, none⟩), .pointer (some ⟨rb, 0, none⟩)] 61)) := Fr.of_below hb2 rfl
  have g2 := World.alloc_heap_new w1 (.cells #[.pointer (some ⟨db, 0, none⟩), .pointer (some ⟨sb, 0, none⟩), .pointer (some ⟨mb, 0, none⟩), .pointer (some ⟨rb, 0, none⟩)] 61)
  have X2 : Hid (paint x1 w1.heap.size 45 w1.heap.size = 45) := Lib.hid (paint_new (Nat.le_refl _))
  have S2 := Lib.hid (S1.out.frame f2 (fun e he hc => by subst hc; exact nPC (by omega) (PD_PC 0 20 _ he)))
  have F2 := Lib.hid ((F1.out.mono (D := AQ) (fun e he => by rcases he with he | he | he; exact PC_AQ e he; (have := he.2; show e ≤ 95; omega); (show e ≤ 95; omega))).trans (f2.mono (fun e he => by show e ≤ 95; omega)))
  have G2 := Lib.hid g2
  clear hb2 f2 g2 S1 F1
  generalize World.alloc w1 _ = W2 at X2 S2 F2 G2 ⊢
  generalize paint x1 w1.heap.size 45 = x2 at X2 S2 F2
  generalize w1.heap.size = gb at X2 G2 ⊢
  refine (Create_any x2 50 0 20 W2 sb db eb 0 m 4 2 V S2.out (by omega) (by omega)).mono ?_
  rintro e w3 ⟨wb, pb, xb, qb, x3, rfl, f3, i3, b3, -⟩
  have G3 := Lib.hid ((b3.block _ (lt_of_block G2.out)).trans G2.out)
  have X3 := Lib.hid ((f3.col _ (lt_of_block G2.out)).trans X2.out)
  have F3 := Lib.hid (F2.out.trans (f3.mono (D := AQ) (fun e he => by have := he.2; show e ≤ 95; omega)))
  have Z3 : Hid (WZ x3 50 0 20 w3 wb sb db eb 0 m 4 2 V [] w3) := Lib.hid (WZ.start (WS.start i3 (S2.out.frame f3 PD_VC) VC_PC))
  clear f3 i3 b3 G2 X2 F2 S2
  go_wp2_with fail
  refine (Fill_any w3 ⟨#[97]⟩ 600 (by decide) (by omega)).mono ?_
  rintro e w4 ⟨rfl, rfl⟩
  have TS := fillS_size ⟨#[97]⟩ 600
  have TL := Lib.hid (fill_a 600)
  generalize fillS ⟨#[97]⟩ 600 = t at TS TL ⊢
  go_wp2_with fail
  refine (Write_any x3 50 0 20 w3 wb sb db eb 0 m 4 2 V [] t w3 Z3.out (by omega) (.inl (by omega)) (fun j hj => by rw [List.length_nil, Nat.zero_div] at hj; omega) (by omega) (by omega) (by rw [List.length_nil]; omega) (by omega) (onS_append [] _)).mono ?_
  rintro e w5 ⟨rfl, V5, z5, ct5, -⟩
  rw [List.nil_append, TL.out] at z5 ct5
  have Z5 := Lib.hid z5
  have CT5 := Lib.hid ct5
  clear z5 ct5 Z3
  go_wp2_with fail
  have hb1 : (⟨#[98]⟩ : ByteArray).size = 1 := rfl
  refine (Write_any x3 50 0 20 w3 wb sb db eb (0 + 200) m 4 2 V5 (List.replicate 600 97) ⟨#[98]⟩ w5 Z5.out (by omega) (.inl (by omega)) CT5.out (by omega) (by omega) (by rw [List.length_replicate, hb1]; omega) (by omega) (onS_append _ _)).mono ?_
  rintro e w6 ⟨rfl, V6, z6, ct6, -⟩
  have hT : (⟨#[98]⟩ : ByteArray).data.toList = [98] := rfl
  rw [hT] at z6 ct6
  obtain ⟨T, hTT⟩ : ∃ T : List UInt8, List.replicate 600 97 ++ [98] = T := ⟨_, rfl⟩
  have hTl : T.length = 601 := by rw [← hTT, List.length_append, List.length_replicate]; rfl
  have TD : Hid ((T.drop 599).take 2 = [97, 98]) := Lib.hid (by rw [← hTT]; decide +kernel)
  rw [hTT] at z6 ct6
  have Z6 := Lib.hid z6
  have CT6 := Lib.hid ct6
  have HTL := Lib.hid hTl
  clear z6 ct6 Z5 CT5 hTT hT hb1
  go_wp2_with fail
  refine (Close_any x3 50 0 20 w3 wb sb db eb (0 + 200 + 200) m 4 2 V6 T w6 Z6.out (by omega) (.inl (by omega)) CT6.out (by omega) (by omega) (by omega) (by omega)).mono ?_
  rintro e w7 ⟨rfl, V7, rv, pb7, xb7, qb7, R7, at7, ws7, cl7, -⟩
  obtain ⟨-, x7, f7, -, s7⟩ := ws7
  have hne : ¬ WC 0 20 50 45 := by rintro (q | q); exact nPC (by omega) q; exact absurd q.1 (by omega)
  have g7 := (f7.old _ (lt_of_block G3.out) (by rw [X3.out]; exact hne)).trans G3.out
  have k1 : w7.cell? ⟨gb, 1, none⟩ = some (.pointer (some ⟨sb, 0, none⟩)) := by rw [cell_of_row _ _ _ _ _ _ g7]; rfl
  have F7 := Lib.hid (F3.out.trans (f7.mono (D := AQ) (fun e he => by rcases he with he | he; exact PC_AQ e he; (have := he.2; show e ≤ 95; omega))))
  have S7 := Lib.hid s7
  have CL7 := Lib.hid cl7
  clear f7 s7 cl7 g7 hne Z6 CT6 F3 G3 X3
  obtain ⟨sn, hsn⟩ : ∃ sn, (onS 0 T).toNat = sn := ⟨_, rfl⟩
  have hsl : sn < 4294967296 := by have := (onS_U32 T).2; have := (onS_U32 T).1; omega
  have FT := Lib.hid CL7.out.foot
  rw [hsn, hTl] at FT
  go_wp2_with fail
  refine (Open_any x7 55 0 20 w7 sb db eb _ m 4 2 601 sn V7 S7.out (.inl (by omega)) (nPC (by omega)) (by omega) (by omega) (by omega) FT.out (by omega) hsl).mono ?_
  rintro e w8 ⟨rb8, x8, rfl, f8, ri8, xr8, -, s8⟩
  have F8 := Lib.hid (F7.out.trans (f8.mono (D := AQ) (fun e he => by rcases he with he | he; exact PC_AQ e he; (show e ≤ 95; omega))))
  have S8 := Lib.hid s8
  have R8 := Lib.hid ri8
  have XR := Lib.hid xr8
  clear f8 ri8 xr8 s8 k1 S7 F7
  go_wp2_with fail
  refine (ReadAt_any x8 56 0 20 w8 rb8 sb db eb _ m 4 2 601 sn V7 S8.out R8.out (.inl (by omega)) (nPC (by omega)) (nPC (by omega)) (by rw [XR.out]; exact nPC (by omega)) (by rw [XR.out]; exact ⟨by omega, by omega⟩) (by omega) (by omega) (by omega) 599 2 (by omega) (by omega)).mono ?_
  rintro e w9 ⟨rfl, x9, f9, s9⟩
  have q9 := readL_of CL7.out.bytes (off := 599) (n := 2) (by omega)
  rw [TD.out] at q9
  rw [q9]
  have R9 : RI w9 rb8 sb 4 2 601 sn := R8.out.frame (f9.old _ (lt_of_block R8.out) (by rw [XR.out]; rintro (q | q | q); exact nPC (by omega) q; omega; omega))
  have F9 := Lib.hid (F8.out.trans (f9.mono (D := AQ) (fun e he => by rcases he with he | he | he; exact PC_AQ e he; (show e ≤ 95; omega); (show e ≤ 95; omega))))
  have LN := Lib.hid (Length_any w9 rb8 sb 4 2 601 sn R9)
  clear q9 f9 s9 R9 F8 S8 R8 XR FT CL7
  go_wp2_with fail
  refine LN.out.mono ?_
  rintro e w10 ⟨rfl, rfl⟩
  go_wp2_with fail
  go_ret
  exact ⟨rfl, F9.out.below_all (fun b _ hC => by have : (100 : Nat) ≤ 95 := hC; omega)⟩

end Go.Proofs.Ytbgbomlmgkgkoaa.st

namespace Go.Proofs.Ytbgbomlmgkgkoaa.st
open Go.RowKit Go.Proofs.Ytbgbomlmgkgkoaa.own Go.Proofs.Ytbgbomlmgkgkoaa.dv Go.Proofs.Ytbgbomlmgkgkoaa.po Go.Proofs.Ytbgbomlmgkgkoaa.arcI

set_option maxRecDepth 100000 in
theorem Blocks_any (w : World) (m n : Nat) (hm : 1 ≤ m ∧ m ≤ 8) (hn : n < 10 * (512 * m)) :
    Calls Try.prog 27 #[.int .i64 ((512 * m : Nat) : Int), .int .i64 (n : Int)] w fun e w' => e = .returned (.tuple #[.int .i64 (((n + 12 + 512 * m - 1) / (512 * m) : Nat) : Int), .int .i64 0]) ∧ w = w' := by
  have hmod : 512 * m % 512 = 0 := Nat.mul_mod_right _ _
  obtain ⟨sz, hsz⟩ : ∃ sz, 512 * m = sz := ⟨_, rfl⟩
  rw [hsz] at hn hmod ⊢
  have hs1 : 512 ≤ sz ∧ sz ≤ 4096 := by omega
  obtain ⟨k, hk⟩ : ∃ k, (n + 12 + sz - 1) / sz = k := ⟨_, rfl⟩
  have a1 : decide ((sz : Int) < 512) = false := decide_eq_false (by omega)
  have a2 : decide ((4096 : Int) < (sz : Int)) = false := decide_eq_false (by omega)
  have a3 : Int.tmod (sz : Int) 512 = 0 := by
    have := Int.ofNat_tmod sz 512
    rw [hmod] at this
    exact this.symm
  have a4 : decide ((n : Int) < 0) = false := decide_eq_false (by omega)
  have a5 : IntKind.i64.wrap (4096 * (sz : Int)) = 4096 * (sz : Int) := IntWalk.i64_in _ (by omega)
  have a6 : IntKind.i64.wrap (4096 * (sz : Int) - 12) = 4096 * (sz : Int) - 12 := IntWalk.i64_in _ (by omega)
  have a7 : decide (4096 * (sz : Int) - 12 < (n : Int)) = false := decide_eq_false (by omega)
  have b1 : IntKind.i64.wrap ((n : Int) + 12) = (n : Int) + 12 := IntWalk.i64_in _ (by omega)
  have b2 : IntKind.i64.wrap ((n : Int) + 12 + (sz : Int)) = (n : Int) + 12 + (sz : Int) := IntWalk.i64_in _ (by omega)
  have b3 : IntKind.i64.wrap ((n : Int) + 12 + (sz : Int) - 1) = (n : Int) + 12 + (sz : Int) - 1 := IntWalk.i64_in _ (by omega)
  have b4 : Int.tdiv ((n : Int) + 12 + (sz : Int) - 1) (sz : Int) = (k : Int) := by
    rw [show (n : Int) + 12 + (sz : Int) - 1 = ((n + 12 + sz - 1 : Nat) : Int) by omega, ← Int.ofNat_tdiv, hk]
  have hkl : k ≤ n + 12 + sz - 1 := by rw [← hk]; exact Nat.div_le_self _ _
  have b5 : IntKind.i64.wrap (k : Int) = (k : Int) := IntWalk.i64_in _ (by omega)
  have z0 : ¬ ((sz : Int) = 0) := by omega
  have z1 : ¬ (sz = 0) := by omega
  have HK := Lib.hid hk
  clear hk hsz hmod
  go_enter Try.func27, Try.ntmps27
  go_wp2_with fail
  refine bodyPost_ret (v := .tuple #[.int .i64 (k : Int), .int .i64 0]) (by simp [results, Try.f27, go_sem]) rfl ?_
  exact ⟨by rw [HK.out], rfl⟩

/-- what the law asks of the number of blocks -/
theorem blocks_of {n sz k : Nat} (hz : 512 ≤ sz) (hn : n < 10 * sz) (hk : (n + 12 + sz - 1) / sz = k) : 1 ≤ k ∧ k ≤ 11 ∧ n ≤ k * sz - 12 ∧ (k - 1) * sz - 12 < n + (if k = 1 then 1 else 0) := by
  have h1 : k * sz ≤ n + 12 + sz - 1 := by rw [← hk]; exact Nat.div_mul_le_self _ _
  have h2 : n + 12 + sz - 1 < k * sz + sz := by rw [← hk]; exact Nat.lt_div_mul_add (by omega)
  have hk1 : 1 ≤ k := by
    rcases Nat.eq_zero_or_pos k with h | h
    · subst h; omega
    · exact h
  have hk2 : k ≤ 11 := by
    rcases Nat.lt_or_ge k 12 with h | h
    · omega
    · have := Nat.mul_le_mul h (Nat.le_refl sz); omega
  obtain ⟨p, hp⟩ : ∃ p, (k - 1) * sz = p := ⟨_, rfl⟩
  have h3 : k * sz = p + sz := by
    obtain ⟨j, rfl⟩ : ∃ j, k = j + 1 := ⟨k - 1, by omega⟩
    rw [← hp, Nat.add_mul]; simp
  rw [hp]
  refine ⟨hk1, hk2, by omega, ?_⟩
  split
  · rename_i h; subst h; simp at hp; omega
  · rename_i h
    have : sz ≤ p := by
      rw [← hp]
      have := Nat.mul_le_mul (show 1 ≤ k - 1 by omega) (Nat.le_refl sz)
      omega
    omega

theorem PD_VCg {v0 : Nat} (h : 23 ≤ v0) : ∀ e, PD 0 20 e → ¬ VC v0 e := fun e he hc => by
  have b := hc.1
  rcases he with he | he
  · have := he.1.2; omega
  · have := he.2; omega
theorem VC_PCg {v0 : Nat} (h : 23 ≤ v0) : ∀ e, VC v0 e → ¬ PC 0 20 e := fun e hc he => by
  have b := hc.1
  rcases he with he | he
  · have := he.2; omega
  · have := he.2; omega
theorem modP_is (m : Int) (P : Nat) (h1 : 1 ≤ P) (h2 : P ≤ 1099511627776) : ∃ z : Nat, (wrap64 (m.tmod (P : Int) + (P : Int))).tmod (P : Int) = z ∧ z < P := by
  have q1 : -(P : Int) < m.tmod (P : Int) := Int.lt_tmod_of_pos m (by omega)
  have q2 : m.tmod (P : Int) < (P : Int) := Int.tmod_lt_of_pos m (by omega)
  generalize m.tmod (P : Int) = r at q1 q2 ⊢
  rw [IntWalk.wrap64_in (r + (P : Int)) (by omega), Int.tmod_eq_emod_of_nonneg (by omega)]
  have q3 := Int.emod_nonneg (r + (P : Int)) (show (P : Int) ≠ 0 by omega)
  have q4 := Int.emod_lt_of_pos (r + (P : Int)) (show (0 : Int) < (P : Int) by omega)
  exact ⟨((r + (P : Int)) % (P : Int)).toNat, by omega, by omega⟩

set_option maxRecDepth 100000 in
set_option maxHeartbeats 6400000 in
theorem fits_walk (s0 n0 : Int) (w : World) :
    Calls Try.prog 6 #[.int .i64 s0, .int .i64 n0] w fun e w' => e = .returned (.bool true) ∧ Below w.heap.size w w' := by
  go_enter Try.func6, Try.ntmps6
  go_wp2_with fail
  refine (made_any (fun _ => 100) 0 20 30 (.inl (by omega)) (.inl (by omega)) (by rintro (q | q); exact absurd q.1.2 (by omega); exact absurd q.2 (by omega)) w s0 2).mono ?_
  rintro e w1 ⟨sb, db, eb, mb, rb, m, fr, x1, rfl, m1, m2, r1, r2, f1, s1⟩
  obtain ⟨V, hV⟩ := SV.made s1 (by omega) r1 (by omega)
  have S1 := Lib.hid hV
  have F1 := Lib.hid f1
  clear s1 hV f1
  go_wp2_with fail
  have hb2 : Below w1.heap.size w1 (w1.alloc (.cells #[.pointer (some ⟨db, 0, none⟩), .pointer (some ⟨sb, 0, none⟩), .pointer (some ⟨mb, 0, none⟩), .pointer (some ⟨rb, 0, none⟩)] 61)) := (Below.refl _ w1).alloc (Nat.le_refl _) _
  have f2 : Fr x1 (paint x1 w1.heap.size 45) (fun e => e = 45) w1 (w1.alloc (.cells #[.pointer (some ⟨db, 0, none⟩), .pointer (some ⟨sb, 0, none⟩), .pointer (some ⟨mb, 0, none⟩), .pointer (some ⟨rb, 0, none⟩)] 61)) := Fr.of_below hb2 rfl
  have g2 := World.alloc_heap_new w1 (.cells #[.pointer (some ⟨db, 0, none⟩), .pointer (some ⟨sb, 0, none⟩), .pointer (some ⟨mb, 0, none⟩), .pointer (some ⟨rb, 0, none⟩)] 61)
  have X2 : Hid (paint x1 w1.heap.size 45 w1.heap.size = 45) := Lib.hid (paint_new (Nat.le_refl _))
  have S2 := Lib.hid (S1.out.frame f2 (fun e he hc => by subst hc; exact nPC (by omega) (PD_PC 0 20 _ he)))
  have F2 := Lib.hid ((F1.out.mono (D := AQ) (fun e he => by rcases he with he | he | he; exact PC_AQ e he; (have := he.2; show e ≤ 95; omega); (show e ≤ 95; omega))).trans (f2.mono (fun e he => by show e ≤ 95; omega)))
  have G2 := Lib.hid g2
  clear hb2 f2 g2 S1 F1
  generalize World.alloc w1 _ = W2 at X2 S2 F2 G2 ⊢
  generalize paint x1 w1.heap.size 45 = x2 at X2 S2 F2
  generalize w1.heap.size = gb at X2 G2 ⊢
  refine (awake_any W2).mono ?_
  rintro e w3 ⟨rfl, b3⟩
  have f3 : Fr x2 (paint x2 W2.heap.size 45) (fun e => e = 45) W2 w3 := Fr.of_below b3 rfl
  have S3 := Lib.hid (S2.out.frame f3 (fun e he hc => by subst hc; exact nPC (by omega) (PD_PC 0 20 _ he)))
  have F3 := Lib.hid (F2.out.trans (f3.mono (D := AQ) (fun e he => by show e ≤ 95; omega)))
  have X3 := Lib.hid ((f3.col _ (lt_of_block G2.out)).trans X2.out)
  have g3 := (b3.block _ (lt_of_block G2.out)).trans G2.out
  have k1 : w3.cell? ⟨gb, 1, none⟩ = some (.pointer (some ⟨sb, 0, none⟩)) := by rw [cell_of_row _ _ _ _ _ _ g3]; rfl
  have G3 := Lib.hid g3
  have SZ := Lib.hid S3.out.Size
  clear f3 b3 g3 S2 F2 X2 G2
  generalize paint x2 W2.heap.size 45 = x3 at S3 F3 X3
  go_wp2_with fail
  refine SZ.out.mono ?_
  rintro e w4 ⟨rfl, rfl⟩
  obtain ⟨sz, hsz⟩ : ∃ sz, 512 * m = sz := ⟨_, rfl⟩
  have hs1 : 512 ≤ sz ∧ sz ≤ 1536 := by omega
  obtain ⟨P, hP⟩ : ∃ P, 10 * sz = P := ⟨_, rfl⟩
  obtain ⟨n, hn, hn2⟩ := modP_is n0 P (by omega) (by omega)
  have e1 : IntKind.i64.wrap (10 * (sz : Int)) = (P : Int) := by rw [IntWalk.i64_in _ (by omega)]; omega
  have z0 : ¬ ((P : Int) = 0) := by omega
  have z1 : ¬ (P = 0) := by omega
  have BL := Blocks_any w3 m n (by omega) (by omega)
  have BO := blocks_of (n := n) (sz := sz) (k := (n + 12 + sz - 1) / sz) (by omega) (by omega) rfl
  rw [hsz] at BL ⊢
  generalize (n + 12 + sz - 1) / sz = k at BL BO
  obtain ⟨o1, o2, o3, o4⟩ := BO
  have BLK := Lib.hid BL
  have O3 := Lib.hid o3
  have O4 := Lib.hid o4
  have HSZ := Lib.hid hsz
  have HP := Lib.hid hP
  have hnl : n ≤ 15360 := by omega
  clear BL o3 o4 SZ hP hsz
  go_wp2_with fail
  refine BLK.out.mono ?_
  rintro e w4 ⟨rfl, rfl⟩
  have d1 : decide ((k : Int) < 1) = false := decide_eq_false (by omega)
  have d2 : decide ((11 : Int) < (k : Int)) = false := decide_eq_false (by omega)
  go_wp2_with fail
  refine (Fill_any w3 ⟨#[115, 111, 109, 101, 32, 116, 101, 120, 116]⟩ n (by decide) (by omega)).mono ?_
  rintro e w4 ⟨rfl, rfl⟩
  have TS := fillS_size ⟨#[115, 111, 109, 101, 32, 116, 101, 120, 116]⟩ n
  generalize fillS ⟨#[115, 111, 109, 101, 32, 116, 101, 120, 116]⟩ n = t at TS ⊢
  go_wp2_with fail
  refine (Create_any x3 50 0 20 w3 sb db eb 0 m 2 k V S3.out o1 (by omega)).mono ?_
  rintro e w4 ⟨wb, pb, xb, qb, x4, rfl, f4, i4, b4, -⟩
  have G4 := Lib.hid ((b4.block _ (lt_of_block G3.out)).trans G3.out)
  have X4 := Lib.hid ((f4.col _ (lt_of_block G3.out)).trans X3.out)
  have F4 := Lib.hid (F3.out.trans (f4.mono (D := AQ) (fun e he => by have := he.2; show e ≤ 95; omega)))
  have Z4 : Hid (WZ x4 50 0 20 w4 wb sb db eb 0 m 2 k V [] w4) := Lib.hid (WZ.start (WS.start i4 (S3.out.frame f4 PD_VC) VC_PC))
  clear f4 i4 b4 G3 X3 F3 S3 k1
  go_wp2_with fail
  refine (Write_any x4 50 0 20 w4 wb sb db eb 0 m 2 k V [] t w4 Z4.out (by omega) (.inl (by omega)) (fun j hj => by rw [List.length_nil, Nat.zero_div] at hj; omega) o1 (by omega) (by rw [List.length_nil, HSZ.out]; have := O3.out; omega) (by omega) (onS_append [] _)).mono ?_
  rintro e w5 ⟨rfl, V5, z5, ct5, -⟩
  rw [List.nil_append] at z5 ct5
  have hTl : t.data.toList.length = t.size := Array.length_toList
  obtain ⟨T, hTT⟩ : ∃ T : List UInt8, t.data.toList = T := ⟨_, rfl⟩
  rw [hTT] at z5 ct5 hTl
  have Z5 := Lib.hid z5
  have CT5 := Lib.hid ct5
  have HTL := Lib.hid hTl
  clear z5 ct5 Z4 hTT
  go_wp2_with fail
  refine (Close_any x4 50 0 20 w4 wb sb db eb (0 + 200) m 2 k V5 T w5 Z5.out (by omega) (.inl (by omega)) CT5.out o1 (by omega) (by rw [HSZ.out]; have := O3.out; omega) (by omega)).mono ?_
  rintro e w7 ⟨rfl, V7, rv, pb7, xb7, qb7, R7, at7, ws7, -, -⟩
  obtain ⟨-, x7, f7, -, s7⟩ := ws7
  have hne : ¬ WC 0 20 50 45 := by rintro (q | q); exact nPC (by omega) q; exact absurd q.1 (by omega)
  have g7 := (f7.old _ (lt_of_block G4.out) (by rw [X4.out]; exact hne)).trans G4.out
  have k1 : w7.cell? ⟨gb, 1, none⟩ = some (.pointer (some ⟨sb, 0, none⟩)) := by rw [cell_of_row _ _ _ _ _ _ g7]; rfl
  have F7 := Lib.hid (F4.out.trans (f7.mono (D := AQ) (fun e he => by rcases he with he | he; exact PC_AQ e he; (have := he.2; show e ≤ 95; omega))))
  have S7 := Lib.hid s7
  clear f7 s7 g7 hne Z5 CT5 F4 G4 X4
  by_cases hk1 : k = 1
  · subst hk1
    go_wp2_with fail
    go_ret
    exact ⟨rfl, F7.out.below_all (fun b _ hC => by have : (100 : Nat) ≤ 95 := hC; omega)⟩
  · have hk2 : ¬ ((k : Int) = 1) := by omega
    have ek : IntKind.i64.wrap ((k : Int) - 1) = ((k - 1 : Nat) : Int) := by rw [IntWalk.i64_in _ (by omega)]; omega
    have O5 := O4.out
    rw [if_neg hk1] at O5
    have O5 := Lib.hid O5
    clear O4
    go_wp2_with fail
    refine (Create_any x7 60 0 20 w7 sb db eb _ m 2 (k - 1) V7 S7.out (by omega) (by omega)).mono ?_
    rintro e w8 ⟨wb8, pb8, xb8, qb8, x8, rfl, f8, i8, b8, -⟩
    have F8 := Lib.hid (F7.out.trans (f8.mono (D := AQ) (fun e he => by have := he.2; show e ≤ 95; omega)))
    have Z8 : Hid (WZ x8 60 0 20 w8 wb8 sb db eb (0 + 200 + 16) m 2 (k - 1) V7 [] w8) := Lib.hid (WZ.start (WS.start i8 (S7.out.frame f8 (PD_VCg (by omega))) (VC_PCg (by omega))))
    clear f8 i8 b8 F7 S7 k1 ek
    go_wp2_with fail
    refine (Write_full x8 60 0 20 w8 wb8 sb db eb (0 + 200 + 16) m 2 (k - 1) V7 [] t w8 Z8.out (by omega) (by omega) (by omega) (by rw [List.length_nil]; omega) (by rw [List.length_nil, HSZ.out]; have := O5.out; omega)).mono ?_
    rintro e w9 ⟨rfl, z9⟩
    obtain ⟨rv9, pb9, xb9, qb9, -, x9, f9, -, -⟩ := z9
    have F9 := Lib.hid (F8.out.trans (f9.mono (D := AQ) (fun e he => by rcases he with he | he; exact PC_AQ e he; (have := he.2; show e ≤ 95; omega))))
    clear f9 F8 Z8
    go_wp2_with fail
    go_ret
    exact ⟨rfl, F9.out.below_all (fun b _ hC => by have : (100 : Nat) ≤ 95 := hC; omega)⟩

end Go.Proofs.Ytbgbomlmgkgkoaa.st
