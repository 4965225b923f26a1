/- Statement EdgesShown: the walk of the document's put. -/
import Derived.Test.YthaicpbdlhkkkaaEdgPut
import Derived.Deep.RegionHeld3
namespace Go.Proofs.Ythaicpbdlhkkkaa.edg
open Go.RowKit Go.Proofs.Ythaicpbdlhkkkaa.own Go.Proofs.Ythaicpbdlhkkkaa.so

theorem PS.below {w0 W : World} {acc : List Int} {v : Value} {ks : List (Nat × Int)} (h : PS w0 acc v ks W) : Below w0.heap.size w0 W := h.1
theorem PS.startR {w0 W : World} (c : Int) (h : Below w0.heap.size w0 W) : PS w0 [] (.slice (some ⟨W.heap.size + 1, 0, none⟩) 0 0) [(W.heap.size, c)] ((W.alloc (.cells #[.int .u32 c] 35)).alloc (.cells #[] 35)) := by
  have h2 : Below w0.heap.size w0 (W.alloc (.cells #[.int .u32 c] 35)) := h.alloc h.size _
  have hk : (W.alloc (.cells #[.int .u32 c] 35)).heap.size = W.heap.size + 1 := by simp
  obtain ⟨g1, g2, _⟩ := PS.start h2
  rw [hk] at g2
  refine ⟨g1, g2, fun p hp => ?_⟩
  simp only [List.mem_singleton] at hp
  subst hp
  refine ⟨(Below.heap_alloc _ _ _ (by simp)).trans (heap_alloc_new W _), fun e => ?_⟩
  simp only [Value.ownBlock] at e
  injection e with e
  omega
theorem PS.addOne {w0 W : World} {acc : List Int} {v : Value} {ks : List (Nat × Int)} {o : Oper} {a : Act} {K : Act → World → Prop} {Q : Exit → Act → World → Prop} {c : Bool} {E : Prop} (h : PS w0 acc v ks W) (hc : c = true) (s x : Operand)
    (ho : o.op = .call { callee := .builtin .append, args := #[s, x], argTypes := #[47, 47] }) (hs : a.eval s = v) (ad : Nat) (hx : a.eval x = .slice (some ⟨ad, 0, none⟩) 1 1) (t : Int) (hm : (ad, t) ∈ ks) (hl : acc.length + 1 ≤ 1099511627776)
    (hK : ∀ v' w', PS w0 (acc ++ [t]) v' ks w' → K (a.put o.dst v') w') :
    if c = true then Oper.wp Try.prog o a W K Q else E := by
  refine h.add hc s x ho hs (some ⟨ad, 0, none⟩) 1 1 hx (ys := [t]) rfl (fun e => by cases e) (fun a' ha j u hu => ?_) hl hK
  injection ha with ha
  subst ha
  exact World.news_of_block (cs := #[.int .u32 t]) (t := 35) (fr := (0, 0)) (h.2.2 _ hm).1 j u hu
theorem own_look {w : World} {base : Nat} {v : Value} {xs : List Int} (h : w.ownsRow base 35 1 v xs.length (xs.map U)) :
    (v = .slice none 0 0 ∧ xs = []) ∨ ∃ g cap, v = .slice (some ⟨g, 0, none⟩) xs.length cap ∧ g < w.heap.size ∧ xs.length ≤ cap ∧ ∀ j (hj : j < xs.length), w.cell? ⟨g, j, none⟩ = some (.int .u32 xs[j]) := by
  have h' := h
  rcases h.2 with ⟨hv, h0⟩ | ⟨g, cap, cur, hv, hb, hg, hn, _⟩
  · exact .inl ⟨hv, List.length_eq_zero_iff.1 h0⟩
  · subst hv
    refine .inr ⟨g, cap, rfl, lt_of_block hg, hn, fun j hj => ?_⟩
    rw [h'.cellAt j (by omega)]
    simp [hj]

theorem own_blk {w : World} {base : Nat} {v : Value} {n : Nat} {xs : List Value} (h : w.ownsRow base 35 1 v n xs) (h0 : n ≠ 0) : ∃ k, v.ownBlock = some k ∧ base ≤ k := by
  rcases h.2 with ⟨_, h0'⟩ | ⟨g, cap, cur, hv, hb, hg, hn, _⟩
  · exact absurd h0' h0
  · subst hv
    exact ⟨g, rfl, hb⟩

theorem own_lower {w : World} {b0 base : Nat} {v : Value} {n : Nat} {xs : List Value} (h : w.ownsRow base 35 1 v n xs) (hb : b0 ≤ base) : w.ownsRow b0 35 1 v n xs :=
  ⟨h.1, h.2.imp id (fun ⟨g, cap, cur, hv, hg, r⟩ => ⟨g, cap, cur, hv, Nat.le_trans hb hg, r⟩)⟩

set_option maxRecDepth 100000 in
set_option maxHeartbeats 3200000 in
theorem put_any (w : World) (base : Nat) (v : Value) (xs : List Int) (h : w.ownsRow base 35 1 v xs.length (xs.map U)) (hb : base ≤ w.heap.size) (t : Nat) (hl : xs.length ≤ 1073741824) :
    Calls Try.prog 45 #[v, .int .u32 (t : Int)] w fun e w' => ∃ v', e = .returned v' ∧ Below w.heap.size w w' ∧ w'.ownsRow base 35 1 v' (ins xs t).length ((ins xs t).map U) ∧ (v' = v ∨ ∃ k, v'.ownBlock = some k ∧ w.heap.size ≤ k) := by
  have HO := Lib.hid h
  have HB := Lib.hid hb
  clear hb
  have BW : Hid (Below w.heap.size w w) := Lib.hid (Below.refl _ _)
  rcases own_look h with ⟨rfl, rfl⟩ | ⟨g, cap, rfl, hg, hcap, hcell⟩
  · clear h
    have E2 : Hid (ins [] (t : Int) = [] ++ [(t : Int)] ++ []) := Lib.hid rfl
    have NONE : Hid (∀ W, Below w.heap.size w W → ∀ ad, (none : Option Addr) = some ad → ∀ j u, (([] : List Int).map U)[j]? = some u → W.cell? (ad.add j) = some u) := Lib.hid (fun _ _ _ e => by cases e)
    clear hl HO
    go_enter Try.func45, Try.ntmps45
    go_upto_block 0 with fail
    go_cut [5] from 6 to 19 (fun s5 wc => s5 = .int .i64 0 ∧ w = wc)
    case first =>
      go_wp2_with fail
      go_loopw [5] (fun vi wr => vi = .int .i64 0 ∧ w = wr) (fun _ _ => 0)
      case atStart => exact ⟨rfl, rfl⟩
      case round =>
        obtain ⟨rfl, rfl⟩ := hrel
        go_wp2_with fail
        go_meet
        case rel => exact ⟨rfl, rfl⟩
    case rest =>
      obtain ⟨rfl, rfl⟩ := hcut
      go_upto_region 6 with fail
      go_region_held3 (fun w' => Below w.heap.size w w')
        (first
        | (with_reducible exact BW.out)
        | (with_reducible exact (Below.drew BW.out))
        | (with_reducible exact (Below.alloc BW.out (Below.size BW.out) _))
        | (with_reducible exact (Below.drew (Below.alloc BW.out (Below.size BW.out) _)))
        | (with_reducible exact (Below.alloc (Below.alloc BW.out (Below.size BW.out) _) (Below.size (Below.alloc BW.out (Below.size BW.out) _)) _))
        | (with_reducible exact (Below.drew (Below.alloc (Below.alloc BW.out (Below.size BW.out) _) (Below.size (Below.alloc BW.out (Below.size BW.out) _)) _)))
        | (with_reducible exact (PS.below h2))
        | (with_reducible exact (Below.drew (PS.below h2)))
        | (with_reducible exact (Below.alloc (PS.below h2) (Below.size (PS.below h2)) _))
        | (with_reducible exact (Below.drew (Below.alloc (PS.below h2) (Below.size (PS.below h2)) _)))
        | (with_reducible exact (Below.alloc (Below.alloc (PS.below h2) (Below.size (PS.below h2)) _) (Below.size (Below.alloc (PS.below h2) (Below.size (PS.below h2)) _)) _))
        | (with_reducible exact (Below.drew (Below.alloc (Below.alloc (PS.below h2) (Below.size (PS.below h2)) _) (Below.size (Below.alloc (PS.below h2) (Below.size (PS.below h2)) _)) _)))
        | (with_reducible exact (PS.below h3))
        | (with_reducible exact (Below.drew (PS.below h3)))
        | (with_reducible exact (Below.alloc (PS.below h3) (Below.size (PS.below h3)) _))
        | (with_reducible exact (Below.drew (Below.alloc (PS.below h3) (Below.size (PS.below h3)) _)))
        | (with_reducible exact (Below.alloc (Below.alloc (PS.below h3) (Below.size (PS.below h3)) _) (Below.size (Below.alloc (PS.below h3) (Below.size (PS.below h3)) _)) _))
        | (with_reducible exact (Below.drew (Below.alloc (Below.alloc (PS.below h3) (Below.size (PS.below h3)) _) (Below.size (Below.alloc (PS.below h3) (Below.size (PS.below h3)) _)) _)))
        | (with_reducible exact (PS.below h5))
        | (with_reducible exact (Below.drew (PS.below h5)))
        | (with_reducible exact (Below.alloc (PS.below h5) (Below.size (PS.below h5)) _))
        | (with_reducible exact (Below.drew (Below.alloc (PS.below h5) (Below.size (PS.below h5)) _)))
        | (with_reducible exact (Below.alloc (Below.alloc (PS.below h5) (Below.size (PS.below h5)) _) (Below.size (Below.alloc (PS.below h5) (Below.size (PS.below h5)) _)) _))
        | (with_reducible exact (Below.drew (Below.alloc (Below.alloc (PS.below h5) (Below.size (PS.below h5)) _) (Below.size (Below.alloc (PS.below h5) (Below.size (PS.below h5)) _)) _))))
        (first
        | (refine PS.add (by first | (with_reducible exact PS.drew (PS.start BW.out)) | (with_reducible exact PS.start BW.out) | (with_reducible exact PS.drew (PS.one (PS.start BW.out) _)) | (with_reducible exact PS.one (PS.start BW.out) _) | (with_reducible exact PS.drew (PS.startR _ BW.out)) | (with_reducible exact PS.startR _ BW.out)) (by rfl) (.tmp 33) (.tmp 36) (by rfl) (by rfl) none 0 0 (by rfl) (ys := []) (by rfl) (fun _ => ⟨rfl, rfl⟩) (NONE.out _ (by first | (with_reducible exact BW.out) | (with_reducible exact (Below.drew BW.out)) | (with_reducible exact (Below.alloc BW.out (Below.size BW.out) _)) | (with_reducible exact (Below.drew (Below.alloc BW.out (Below.size BW.out) _))) | (with_reducible exact (Below.alloc (Below.alloc BW.out (Below.size BW.out) _) (Below.size (Below.alloc BW.out (Below.size BW.out) _)) _)) | (with_reducible exact (Below.drew (Below.alloc (Below.alloc BW.out (Below.size BW.out) _) (Below.size (Below.alloc BW.out (Below.size BW.out) _)) _))))) (by simp only [List.length_nil]; omega) ?_; intro v2 w2 h2)
        | (refine PS.addOne (by first | (with_reducible exact h2) | (with_reducible exact PS.drew h2) | (with_reducible exact PS.one h2 _) | (with_reducible exact PS.drew (PS.one h2 _))) (by rfl) (.tmp 37) (.tmp 39) (by rfl) (by rfl) _ (by rfl) (t : Int) (by simp) (by simp only [List.length_append, List.length_nil]; omega) ?_; intro v3 w3 h3)
        | (refine PS.add h3 (by rfl) (.tmp 40) (.tmp 43) (by rfl) (by rfl) none 0 0 (by rfl) (ys := []) (by rfl) (fun _ => ⟨rfl, rfl⟩) (fun _ _ j u hu => by simp at hu) (by simp only [List.length_append, List.length_nil, List.length_cons]; omega) ?_; intro v5 w5 h5))
      all_goals go_wp2_with fail
      all_goals go_ret
      all_goals exact ⟨_, rfl, h5.below, by rw [E2.out]; exact own_lower h5.2.1 HB.out, .inr (own_blk h5.2.1 (by simp))⟩
  · have HC := Lib.hid hcell
    have HG := Lib.hid hg
    clear h hcell
    go_enter Try.func45, Try.ntmps45
    go_upto_block 0 with fail
    go_cut [5] from 6 to 19 (fun s5 wc => ∃ i : Nat, s5 = .int .i64 (i : Int) ∧ i ≤ xs.length ∧ (∀ j (h : j < xs.length), j < i → xs[j] < (t : Int)) ∧ (∀ h : i < xs.length, ¬ xs[i] < (t : Int)) ∧ w = wc)
    case first =>
      go_wp2_with fail
      go_loopw [5] (fun vi wr => ∃ i : Nat, vi = .int .i64 (i : Int) ∧ i ≤ xs.length ∧ (∀ j (h : j < xs.length), j < i → xs[j] < (t : Int)) ∧ w = wr) (fun vi _ => xs.length - (intOf vi).toNat)
      case atStart => exact ⟨0, rfl, Nat.zero_le _, fun j h hj => absurd hj (Nat.not_lt_zero _), rfl⟩
      case round =>
        obtain ⟨i, rfl, hi, hlo, rfl⟩ := hrel
        have HLO := Lib.hid hlo
        clear hlo
        by_cases h1 : i < xs.length
        · have c0 := HC.out i h1
          obtain ⟨x, hx⟩ : ∃ x, xs[i] = x := ⟨_, rfl⟩
          rw [hx] at c0
          have i1 : (i : Int) < (xs.length : Int) := by omega
          have HX := Lib.hid hx
          by_cases h2 : x < (t : Int)
          · have HL2 : Hid (∀ j (h : j < xs.length), j < i + 1 → xs[j] < (t : Int)) := Lib.hid (fun j h hj => by
              by_cases e : j = i
              · subst e; rw [hx]; exact h2
              · exact HLO.out j h (by omega))
            clear hx
            go_wp2_with fail
            go_roundw
            case rel => exact ⟨i + 1, by go_num, by omega, HL2.out, by first | rfl | trivial⟩
            case measure => simp [intOf]; omega
          · have HL2 : Hid (∀ h : i < xs.length, ¬ xs[i] < (t : Int)) := Lib.hid (fun h => by rw [hx]; exact h2)
            clear hx
            go_wp2_with fail
            go_meet
            case rel => exact ⟨i, rfl, hi, HLO.out, HL2.out, rfl⟩
        · have HL2 : Hid (∀ h : i < xs.length, ¬ xs[i] < (t : Int)) := Lib.hid (fun h => absurd h h1)
          have i1 : ¬ (i : Int) < (xs.length : Int) := by omega
          go_wp2_with fail
          go_meet
          case rel => exact ⟨i, rfl, hi, HLO.out, HL2.out, rfl⟩
    case rest =>
      obtain ⟨i, rfl, hi, hlo, hhi, rfl⟩ := hcut
      have IA := Lib.hid (ins_at xs t i hi hlo hhi)
      clear hlo hhi
      by_cases hsame : ∃ h : i < xs.length, xs[i] = (t : Int)
      · obtain ⟨h1, h2⟩ := hsame
        have c0 := HC.out i h1
        rw [h2] at c0
        have i1 : (i : Int) < (xs.length : Int) := by omega
        have E : Hid (ins xs t = xs) := Lib.hid (by rw [IA.out, dif_pos h1, if_pos h2])
        clear h2
        go_wp2_with fail
        go_ret
        exact ⟨_, rfl, BW.out, by rw [E.out]; exact HO.out, .inl rfl⟩
      · have E : Hid (ins xs t = xs.take i ++ [(t : Int)] ++ xs.drop i) := Lib.hid (by
          rw [IA.out]
          by_cases h1 : i < xs.length
          · rw [dif_pos h1, if_neg (fun h2 => hsame ⟨h1, h2⟩)]; simp
          · have e : i = xs.length := by omega
            rw [dif_neg h1, e]; simp)
        have i2 : (i : Int) ≤ (xs.length : Int) := by omega
        have i3 : (i : Int) ≤ (cap : Int) := by omega
        have i4 : (xs.length : Int) ≤ (cap : Int) := by omega
        have SRC1 : Hid (∀ W, Below w.heap.size w W → ∀ ad, (some ⟨g, 0, none⟩ : Option Addr) = some ad → ∀ j u, ((xs.take i).map U)[j]? = some u → W.cell? (ad.add j) = some u) := Lib.hid (fun W hb ad ha j u hu => by
          injection ha with ha
          subst ha
          rw [Addr.add_lit, Nat.zero_add]
          obtain ⟨hj, rfl⟩ := List.getElem?_eq_some_iff.1 hu
          rw [List.length_map, List.length_take] at hj
          rw [hb.cell (p := ⟨g, j, none⟩) HG.out, HC.out j (by omega)]
          simp)
        by_cases h1 : i < xs.length
        · have c0 := HC.out i h1
          obtain ⟨x, hx⟩ : ∃ x, xs[i] = x := ⟨_, rfl⟩
          rw [hx] at c0
          have hxt : ¬ x = (t : Int) := fun e => hsame ⟨h1, by rw [hx]; exact e⟩
          have hxb : (x == (t : Int)) = false := beq_eq_false_iff_ne.2 hxt
          have i1 : (i : Int) < (xs.length : Int) := by omega
          have i5 : ¬ cap = i := by omega
          have XT := Lib.hid hxt
          clear hx hsame hxt
          go_upto_region 6 with fail
          have SRC2 : Hid (∀ W, Below w.heap.size w W → ∀ ad, (some ⟨g, i, none⟩ : Option Addr) = some ad → ∀ j u, ((xs.drop i).map U)[j]? = some u → W.cell? (ad.add j) = some u) := Lib.hid (fun W hb ad ha j u hu => by
            injection ha with ha
            subst ha
            rw [Addr.add_lit]
            obtain ⟨hj, rfl⟩ := List.getElem?_eq_some_iff.1 hu
            rw [List.length_map, List.length_drop] at hj
            rw [hb.cell (p := ⟨g, i + j, none⟩) HG.out, HC.out (i + j) (by omega)]
            simp)
          go_region_held3 (fun w' => Below w.heap.size w w')
            (first
            | (with_reducible exact BW.out)
            | (with_reducible exact (Below.drew BW.out))
            | (with_reducible exact (Below.alloc BW.out (Below.size BW.out) _))
            | (with_reducible exact (Below.drew (Below.alloc BW.out (Below.size BW.out) _)))
            | (with_reducible exact (Below.alloc (Below.alloc BW.out (Below.size BW.out) _) (Below.size (Below.alloc BW.out (Below.size BW.out) _)) _))
            | (with_reducible exact (Below.drew (Below.alloc (Below.alloc BW.out (Below.size BW.out) _) (Below.size (Below.alloc BW.out (Below.size BW.out) _)) _)))
            | (with_reducible exact (PS.below h2))
            | (with_reducible exact (Below.drew (PS.below h2)))
            | (with_reducible exact (Below.alloc (PS.below h2) (Below.size (PS.below h2)) _))
            | (with_reducible exact (Below.drew (Below.alloc (PS.below h2) (Below.size (PS.below h2)) _)))
            | (with_reducible exact (Below.alloc (Below.alloc (PS.below h2) (Below.size (PS.below h2)) _) (Below.size (Below.alloc (PS.below h2) (Below.size (PS.below h2)) _)) _))
            | (with_reducible exact (Below.drew (Below.alloc (Below.alloc (PS.below h2) (Below.size (PS.below h2)) _) (Below.size (Below.alloc (PS.below h2) (Below.size (PS.below h2)) _)) _)))
            | (with_reducible exact (PS.below h3))
            | (with_reducible exact (Below.drew (PS.below h3)))
            | (with_reducible exact (Below.alloc (PS.below h3) (Below.size (PS.below h3)) _))
            | (with_reducible exact (Below.drew (Below.alloc (PS.below h3) (Below.size (PS.below h3)) _)))
            | (with_reducible exact (Below.alloc (Below.alloc (PS.below h3) (Below.size (PS.below h3)) _) (Below.size (Below.alloc (PS.below h3) (Below.size (PS.below h3)) _)) _))
            | (with_reducible exact (Below.drew (Below.alloc (Below.alloc (PS.below h3) (Below.size (PS.below h3)) _) (Below.size (Below.alloc (PS.below h3) (Below.size (PS.below h3)) _)) _)))
            | (with_reducible exact (PS.below h5))
            | (with_reducible exact (Below.drew (PS.below h5)))
            | (with_reducible exact (Below.alloc (PS.below h5) (Below.size (PS.below h5)) _))
            | (with_reducible exact (Below.drew (Below.alloc (PS.below h5) (Below.size (PS.below h5)) _)))
            | (with_reducible exact (Below.alloc (Below.alloc (PS.below h5) (Below.size (PS.below h5)) _) (Below.size (Below.alloc (PS.below h5) (Below.size (PS.below h5)) _)) _))
            | (with_reducible exact (Below.drew (Below.alloc (Below.alloc (PS.below h5) (Below.size (PS.below h5)) _) (Below.size (Below.alloc (PS.below h5) (Below.size (PS.below h5)) _)) _))))
            (first
            | (refine PS.add (by first | (with_reducible exact PS.drew (PS.start BW.out)) | (with_reducible exact PS.start BW.out) | (with_reducible exact PS.drew (PS.one (PS.start BW.out) _)) | (with_reducible exact PS.one (PS.start BW.out) _) | (with_reducible exact PS.drew (PS.startR _ BW.out)) | (with_reducible exact PS.startR _ BW.out)) (by rfl) (.tmp 33) (.tmp 36) (by rfl) (by rfl) (some ⟨g, 0, none⟩) i cap (by rfl) (ys := xs.take i) (by rw [List.length_take]; omega) (fun e => by cases e) (SRC1.out _ (by first | (with_reducible exact BW.out) | (with_reducible exact (Below.drew BW.out)) | (with_reducible exact (Below.alloc BW.out (Below.size BW.out) _)) | (with_reducible exact (Below.drew (Below.alloc BW.out (Below.size BW.out) _))) | (with_reducible exact (Below.alloc (Below.alloc BW.out (Below.size BW.out) _) (Below.size (Below.alloc BW.out (Below.size BW.out) _)) _)) | (with_reducible exact (Below.drew (Below.alloc (Below.alloc BW.out (Below.size BW.out) _) (Below.size (Below.alloc BW.out (Below.size BW.out) _)) _))))) (by simp only [List.length_nil]; omega) ?_; intro v2 w2 h2)
            | (refine PS.addOne (by first | (with_reducible exact h2) | (with_reducible exact PS.drew h2) | (with_reducible exact PS.one h2 _) | (with_reducible exact PS.drew (PS.one h2 _))) (by rfl) (.tmp 37) (.tmp 39) (by rfl) (by rfl) _ (by rfl) (t : Int) (by simp) (by simp only [List.length_append, List.length_nil, List.length_take]; omega) ?_; intro v3 w3 h3)
            | (refine PS.add h3 (by rfl) (.tmp 40) (.tmp 43) (by rfl) (by rfl) (some ⟨g, i, none⟩) (xs.length - i) (cap - i) (by rfl) (ys := xs.drop i) (by rw [List.length_drop]) (fun e => by cases e) (SRC2.out _ (PS.below h3)) (by simp only [List.length_append, List.length_nil, List.length_take, List.length_cons]; omega) ?_; intro v5 w5 h5))
          all_goals
            go_wp2_with fail
            go_ret
            exact ⟨_, rfl, h5.below, by rw [E.out]; exact own_lower h5.2.1 HB.out, .inr (own_blk h5.2.1 (by simp))⟩
        · have e : i = xs.length := by omega
          subst e
          have i1 : ¬ (xs.length : Int) < (xs.length : Int) := by omega
          have E2 : Hid (ins xs t = xs.take xs.length ++ [(t : Int)] ++ []) := Lib.hid (by rw [E.out]; simp)
          have i0 : Nat.sub xs.length xs.length = 0 := Nat.sub_self _
          have i7 : xs.length - xs.length = 0 := Nat.sub_self _
          clear hsame h1
          go_upto_region 6 with fail
          go_region_held3 (fun w' => Below w.heap.size w w')
            (first
            | (with_reducible exact BW.out)
            | (with_reducible exact (Below.drew BW.out))
            | (with_reducible exact (Below.alloc BW.out (Below.size BW.out) _))
            | (with_reducible exact (Below.drew (Below.alloc BW.out (Below.size BW.out) _)))
            | (with_reducible exact (Below.alloc (Below.alloc BW.out (Below.size BW.out) _) (Below.size (Below.alloc BW.out (Below.size BW.out) _)) _))
            | (with_reducible exact (Below.drew (Below.alloc (Below.alloc BW.out (Below.size BW.out) _) (Below.size (Below.alloc BW.out (Below.size BW.out) _)) _)))
            | (with_reducible exact (PS.below h2))
            | (with_reducible exact (Below.drew (PS.below h2)))
            | (with_reducible exact (Below.alloc (PS.below h2) (Below.size (PS.below h2)) _))
            | (with_reducible exact (Below.drew (Below.alloc (PS.below h2) (Below.size (PS.below h2)) _)))
            | (with_reducible exact (Below.alloc (Below.alloc (PS.below h2) (Below.size (PS.below h2)) _) (Below.size (Below.alloc (PS.below h2) (Below.size (PS.below h2)) _)) _))
            | (with_reducible exact (Below.drew (Below.alloc (Below.alloc (PS.below h2) (Below.size (PS.below h2)) _) (Below.size (Below.alloc (PS.below h2) (Below.size (PS.below h2)) _)) _)))
            | (with_reducible exact (PS.below h3))
            | (with_reducible exact (Below.drew (PS.below h3)))
            | (with_reducible exact (Below.alloc (PS.below h3) (Below.size (PS.below h3)) _))
            | (with_reducible exact (Below.drew (Below.alloc (PS.below h3) (Below.size (PS.below h3)) _)))
            | (with_reducible exact (Below.alloc (Below.alloc (PS.below h3) (Below.size (PS.below h3)) _) (Below.size (Below.alloc (PS.below h3) (Below.size (PS.below h3)) _)) _))
            | (with_reducible exact (Below.drew (Below.alloc (Below.alloc (PS.below h3) (Below.size (PS.below h3)) _) (Below.size (Below.alloc (PS.below h3) (Below.size (PS.below h3)) _)) _)))
            | (with_reducible exact (PS.below h5))
            | (with_reducible exact (Below.drew (PS.below h5)))
            | (with_reducible exact (Below.alloc (PS.below h5) (Below.size (PS.below h5)) _))
            | (with_reducible exact (Below.drew (Below.alloc (PS.below h5) (Below.size (PS.below h5)) _)))
            | (with_reducible exact (Below.alloc (Below.alloc (PS.below h5) (Below.size (PS.below h5)) _) (Below.size (Below.alloc (PS.below h5) (Below.size (PS.below h5)) _)) _))
            | (with_reducible exact (Below.drew (Below.alloc (Below.alloc (PS.below h5) (Below.size (PS.below h5)) _) (Below.size (Below.alloc (PS.below h5) (Below.size (PS.below h5)) _)) _))))
            (first
            | (refine PS.add (by first | (with_reducible exact PS.drew (PS.start BW.out)) | (with_reducible exact PS.start BW.out) | (with_reducible exact PS.drew (PS.one (PS.start BW.out) _)) | (with_reducible exact PS.one (PS.start BW.out) _) | (with_reducible exact PS.drew (PS.startR _ BW.out)) | (with_reducible exact PS.startR _ BW.out)) (by rfl) (.tmp 33) (.tmp 36) (by rfl) (by rfl) (some ⟨g, 0, none⟩) xs.length cap (by rfl) (ys := xs.take xs.length) (by rw [List.length_take]; omega) (fun e => by cases e) (SRC1.out _ (by first | (with_reducible exact BW.out) | (with_reducible exact (Below.drew BW.out)) | (with_reducible exact (Below.alloc BW.out (Below.size BW.out) _)) | (with_reducible exact (Below.drew (Below.alloc BW.out (Below.size BW.out) _))) | (with_reducible exact (Below.alloc (Below.alloc BW.out (Below.size BW.out) _) (Below.size (Below.alloc BW.out (Below.size BW.out) _)) _)) | (with_reducible exact (Below.drew (Below.alloc (Below.alloc BW.out (Below.size BW.out) _) (Below.size (Below.alloc BW.out (Below.size BW.out) _)) _))))) (by simp only [List.length_nil]; omega) ?_; intro v2 w2 h2)
            | (refine PS.addOne (by first | (with_reducible exact h2) | (with_reducible exact PS.drew h2) | (with_reducible exact PS.one h2 _) | (with_reducible exact PS.drew (PS.one h2 _))) (by rfl) (.tmp 37) (.tmp 39) (by rfl) (by rfl) _ (by rfl) (t : Int) (by simp) (by simp only [List.length_append, List.length_nil, List.length_take]; omega) ?_; intro v3 w3 h3)
            | (refine PS.add h3 (by rfl) (.tmp 40) (.tmp 43) (by rfl) (by rfl) _ 0 _ (by rfl) (ys := []) (by rfl) (fun e => by split at e <;> cases e) (fun _ _ j u hu => by simp at hu) (by simp only [List.length_append, List.length_nil, List.length_take, List.length_cons]; omega) ?_; intro v5 w5 h5))
          all_goals go_wp2_with fail
          all_goals go_ret
          all_goals exact ⟨_, rfl, h5.below, by rw [E2.out]; exact own_lower h5.2.1 HB.out, .inr (own_blk h5.2.1 (by simp))⟩
end Go.Proofs.Ythaicpbdlhkkkaa.edg
