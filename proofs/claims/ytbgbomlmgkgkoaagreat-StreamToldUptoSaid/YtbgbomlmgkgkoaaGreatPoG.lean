/- pool: the contracts of New of device, map and space; Fill. -/
import Derived.Test.YtbgbomlmgkgkoaaGreatPoF
namespace Go.Proofs.YtbgbomlmgkgkoaaGreat.arcI
open Go.RowKit Go.Proofs.YtbgbomlmgkgkoaaGreat.own Go.Proofs.YtbgbomlmgkgkoaaGreat.dv Go.Proofs.YtbgbomlmgkgkoaaGreat.po

def newD (nb ns : Nat) : Dev := ⟨nb, ns, fun _ => none, [], false, 0, 0⟩
theorem newD_ok (nb ns : Nat) (h1 : 16 ≤ nb ∧ nb ≤ 4096) (h2 : 1 ≤ ns ∧ ns ≤ 8) : (newD nb ns).Ok := ⟨h1, h2, fun k t h => (by cases h), fun p hp => (by cases hp)⟩

theorem Check_any (w : World) (nb ns : Nat) (h1 : 16 ≤ nb ∧ nb ≤ 4096) (h2 : 1 ≤ ns ∧ ns ≤ 8) :
    Calls Tryz.prog 79 #[.agg #[.int .i64 nb, .int .i64 ns]] w fun e w' => e = .returned (.int .i64 0) ∧ Below w.heap.size w w' := by
  have a1 : decide ((nb : Int) < 16) = false := decide_eq_false (by omega)
  have a2 : decide ((4096 : Int) < (nb : Int)) = false := decide_eq_false (by omega)
  have a3 : decide ((ns : Int) < 1) = false := decide_eq_false (by omega)
  have a4 : decide ((8 : Int) < (ns : Int)) = false := decide_eq_false (by omega)
  go_enter Tryz.func79, Tryz.ntmps79
  go_wp2_with fail
  go_ret
  exact ⟨rfl, (Below.refl _ w).alloc (Nat.le_refl _) _⟩

set_option maxRecDepth 100000 in
theorem DNew_any (x : Nat → Nat) (d0 : Nat) (w : World) (nb ns : Nat) (h1 : 16 ≤ nb ∧ nb ≤ 4096) (h2 : 1 ≤ ns ∧ ns ≤ 8) :
    Calls Tryz.prog 28 #[.agg #[.int .i64 nb, .int .i64 ns]] w fun e w' => ∃ db x', e = .returned (.tuple #[.pointer (some ⟨db, 0, none⟩), .int .i64 0]) ∧ Fr x x' (DC d0) w w' ∧ DIs x' d0 w' db (newD nb ns) 0 ∧ Below w.heap.size w w' := by
  have hmm := @run_makeMap Tryz.prog
  go_enter Tryz.func28, Tryz.ntmps28
  go_wp2_with fail
  refine (Check_any _ nb ns h1 h2).mono ?_
  rintro e w1 ⟨rfl, hb1⟩
  have c0 : w1.cell? ⟨w.heap.size, 0, none⟩ = some (.int .i64 nb) := (hb1.cell (by simp)).trans (by rw [cell_of_row _ _ _ _ _ _ (World.alloc_heap_new w _)]; rfl)
  have c1 : w1.cell? ⟨w.heap.size, 1, none⟩ = some (.int .i64 ns) := (hb1.cell (by simp)).trans (by rw [cell_of_row _ _ _ _ _ _ (World.alloc_heap_new w _)]; rfl)
  have B1 := Lib.hid (((Below.refl _ w).alloc (Nat.le_refl _) (.cells #[.int .i64 nb, .int .i64 ns] 86)).trans (hb1.mono (by simp)))
  have hz1 := hb1.size
  rw [World.size_alloc] at hz1
  clear hb1
  go_wp2_with fail
  refine bodyPost_ret (v := .tuple #[.pointer (some ⟨w1.heap.size + 1, 0, none⟩), .int .i64 0]) (by simp [results, Tryz.f28, go_sem]) rfl ?_
  obtain ⟨o2, ho2⟩ : ∃ o, o = Obj.cells (devCells (newD nb ns) w1.heap.size (.slice none 0 0)) 155 := ⟨_, rfl⟩
  have B2 : Below w.heap.size w ((w1.alloc (.map #[] 0)).alloc o2) := ((B1.out.alloc B1.out.size _).alloc (by have := B1.out.size; simp; omega) _)
  have hdb : ((w1.alloc (.map #[] 0)).alloc o2).heap[w1.heap.size + 1]? = some o2 := by
    have := World.alloc_heap_new (w1.alloc (.map #[] 0)) o2
    rwa [World.size_alloc] at this
  have hm : VM ((w1.alloc (.map #[] 0)).alloc o2) w1.heap.size 0 (fun _ => none) 0 := (VM.made w1).frame (Below.heap_alloc _ _ _ (by simp))
  refine ⟨_, fun b => if b < w.heap.size then x b else if b = w1.heap.size + 1 then d0 else if b = w1.heap.size then d0 + 1 else d0 + 2, rfl, ?_, ?_, ?_⟩
  · have e : (w1.alloc (.map #[] 0)).alloc o2 = (w1.alloc (.map #[] 0)).alloc (Obj.cells (devCells (newD nb ns) w1.heap.size (.slice none 0 0)) 155) := by rw [ho2]
    show Fr x _ (DC d0) w ((w1.alloc (.map #[] 0)).alloc (Obj.cells (devCells (newD nb ns) w1.heap.size (.slice none 0 0)) 155))
    rw [← e]
    refine ⟨B2.os, B2.tape, B2.output, B2.size, fun b hb => if_pos hb, fun b h3 h4 => ?_, fun b hb _ => B2.block b hb⟩
    show DC d0 (if b < w.heap.size then x b else if b = w1.heap.size + 1 then d0 else if b = w1.heap.size then d0 + 1 else d0 + 2)
    rw [if_neg (by omega)]
    split
    · exact ⟨by omega, by omega⟩
    · split
      · exact ⟨by omega, by omega⟩
      · exact ⟨by omega, by omega⟩
  · show DIs _ d0 ((w1.alloc (.map #[] 0)).alloc (Obj.cells (devCells (newD nb ns) w1.heap.size (.slice none 0 0)) 155)) (w1.heap.size + 1) (newD nb ns) 0
    rw [← ho2]
    have hn1 : ¬ (w1.heap.size + 1 < w.heap.size) := by omega
    have hn2 : ¬ (w1.heap.size < w.heap.size) := by omega
    refine ⟨w1.heap.size, .slice none 0 0, 0, 0, by rw [hdb, ho2], ?_, ?_, hm, World.ownsRow_nil _ _ _ _, fun b hb => by simp [Value.ownBlock] at hb, Nat.le_refl _, Nat.le_refl _, Nat.le_refl _⟩
    · show (if w1.heap.size + 1 < w.heap.size then _ else _) = _
      rw [if_neg hn1, if_pos rfl]
    · show (if w1.heap.size < w.heap.size then _ else _) = _
      rw [if_neg hn2, if_neg (by omega), if_pos rfl]
  · show Below w.heap.size w ((w1.alloc (.map #[] 0)).alloc (Obj.cells (devCells (newD nb ns) w1.heap.size (.slice none 0 0)) 155))
    rw [← ho2]; exact B2

/-! ### a map of blocks -/
def isv (l : List Nat) : List Value := l.map fun (n : Nat) => .int .u8 (n : Int)
def EIs (x : Nat → Nat) (e0 : Nat) (w : World) (eb : Nat) (frm : Nat) (l : List Nat) : Prop :=
  ∃ v, w.heap[eb]? = some (.cells #[.int .i64 frm, v, .slice none 0 0, .bool false] 121 (0, 0)) ∧ x eb = e0 ∧ w.ownsRow 0 215 1 v l.length (isv l) ∧ ∀ b, v.ownBlock = some b → x b = e0 + 1
def EC (e0 : Nat) : Nat → Prop := fun e => e0 ≤ e ∧ e ≤ e0 + 1
theorem EIs.frame {x x' : Nat → Nat} {C : Nat → Prop} {e0 : Nat} {w w' : World} {eb frm : Nat} {l : List Nat} (h : EIs x e0 w eb frm l) (hf : Fr x x' C w w') (hC : ∀ e, EC e0 e → ¬ C e) : EIs x' e0 w' eb frm l := by
  obtain ⟨v, h0, hx, hr, hc⟩ := h
  refine ⟨v, ?_, ?_, ⟨hr.1, ?_⟩, ?_⟩
  · rw [hf.old _ (lt_of_block h0) (by rw [hx]; exact hC _ ⟨Nat.le_refl _, by omega⟩)]; exact h0
  · rw [hf.col _ (lt_of_block h0)]; exact hx
  · rcases hr.2 with hn | ⟨g, cap, cur, hv, hb, hg, r⟩
    · exact .inl hn
    · refine .inr ⟨g, cap, cur, hv, hb, ?_, r⟩
      have hx := hc g (by rw [hv]; rfl)
      rw [hf.old g (lt_of_block hg) (by rw [hx]; exact hC _ ⟨by omega, by omega⟩)]
      exact hg
  · intro b hb
    rw [hf.col b (hr.lt b hb).2]; exact hc b hb
theorem Tryz.infoState : (Tryz.prog.info? 215).map (fun i => (i.zero, i.size, i.bytes)) = some (some (.int .u8 0), 1, 1) := by kernel_rfl
set_option maxRecDepth 100000 in
theorem ENew_any (x : Nat → Nat) (e0 : Nat) (w : World) (frm n : Nat) (h1 : frm ≤ n) (h2 : n ≤ 4096) :
    Calls Tryz.prog 10 #[.int .i64 frm, .int .i64 n] w fun e w' => ∃ eb x', e = .returned (.tuple #[.pointer (some ⟨eb, 0, none⟩), .int .i64 0]) ∧ Fr x x' (EC e0) w w' ∧ EIs x' e0 w' eb frm (List.replicate n 0) ∧ Below w.heap.size w w' := by
  obtain ⟨i0, hi, hz0, hz1, hz2⟩ := info_parts Tryz.infoState
  obtain ⟨w1, hrun, hown, hg⟩ := run_make_full w w.heap.size 119 215 i0 _ 1 (by kernel_rfl) hi hz0 hz1 .i64 .i64 n (by rw [hz2]; omega) (by simp only [maxLen]; omega) (Nat.le_refl _)
  have a1 : decide ((n : Int) < (frm : Int)) = false := decide_eq_false (by omega)
  have a2 : decide ((4096 : Int) < (n : Int)) = false := decide_eq_false (by omega)
  have a3 : decide ((frm : Int) < 0) = false := decide_eq_false (by omega)
  have HO := Lib.hid hown
  have HG := Lib.hid hg
  clear hown hg hi hz0 hz1 hz2
  go_enter Tryz.func10, Tryz.ntmps10
  have a4 : decide ((n : Nat) < frm) = false := decide_eq_false (by omega)
  go_wp2_with fail
  refine bodyPost_ret (v := .tuple #[.pointer (some ⟨w1.heap.size, 0, none⟩), .int .i64 0]) (by simp [results, Tryz.f10, go_sem]) rfl ?_
  have hz := HG.out.size
  obtain ⟨o2, ho2⟩ : ∃ o, o = Obj.cells #[Value.int .i64 frm, .slice (some ⟨w.heap.size, 0, none⟩) n n, .slice none 0 0, .bool false] 121 := ⟨_, rfl⟩
  have B1 : Below w.heap.size w w1 := ⟨HG.out.os, HG.out.tape, HG.out.output, HG.out.size, fun k hk => HG.out.block k hk (by simp)⟩
  have B2 : Below w.heap.size w (w1.alloc o2) := B1.alloc hz _
  have hl := (HO.out.lt w.heap.size rfl).2
  rw [← ho2]
  refine ⟨_, fun b => if b < w.heap.size then x b else if b = w1.heap.size then e0 else e0 + 1, rfl, ?_, ?_, B2⟩
  · refine ⟨B2.os, B2.tape, B2.output, B2.size, fun b hb => if_pos hb, fun b h3 h4 => ?_, fun b hb _ => B2.block b hb⟩
    show EC e0 (if b < w.heap.size then x b else if b = w1.heap.size then e0 else e0 + 1)
    rw [if_neg (by omega)]
    split
    · exact ⟨by omega, by omega⟩
    · exact ⟨by omega, by omega⟩
  · refine ⟨.slice (some ⟨w.heap.size, 0, none⟩) n n, by rw [World.alloc_heap_new, ho2], ?_, ?_, fun b hb => ?_⟩
    · show (if w1.heap.size < w.heap.size then _ else _) = _
      rw [if_neg (by omega), if_pos rfl]
    · have hr := own_base (own_below HO.out ((Below.refl _ w1).alloc (Nat.le_refl _) o2)) (Nat.zero_le _)
      have e : (madeCells (Value.int .u8 0).cells (n * 1)).toList = isv (List.replicate n 0) := by
        have ec : (Value.int .u8 0).cells = #[.int .u8 0] := rfl
        rw [ec, toList_madeCells_one]
        simp [isv]
      rw [e] at hr
      rw [List.length_replicate]
      exact hr
    · have : b = w.heap.size := by simp [Value.ownBlock] at hb; omega
      subst this
      show (if w.heap.size < w.heap.size then _ else _) = _
      rw [if_neg (by omega), if_neg (by omega)]

/-! ### a space, made new -/
def newP (n : Nat) : Sp := ⟨newS n, fun _ => none, 0, 0, 0, 0, 0, 0, false⟩
theorem newP_ok (n : Nat) (h1 : 1 ≤ n) (h2 : n ≤ 4096) (D : Dev) (hd : D.Ok) (hu : D.down = false) : SpOk (newP n) D :=
  ⟨newS_ok n ⟨h1, h2⟩, fun k => (by simp [newP, newS]), fun k p h => (by cases h), rfl, fun k p h => (by cases h), fun k p h => (by cases h), fun k p h => (by cases h), hd, hu, rfl⟩

set_option maxRecDepth 100000 in
set_option maxHeartbeats 1600000 in
theorem PNew_any (x : Nat → Nat) (c0 db eb : Nat) (w : World) (n : Nat) (h1 : 1 ≤ n) (h2 : n ≤ 1024) :
    Calls Tryz.prog 11 #[.pointer (some ⟨db, 0, none⟩), .int .i64 n, .pointer (some ⟨eb, 0, none⟩)] w fun e w' => ∃ sb cb pm x', e = .returned (.tuple #[.pointer (some ⟨sb, 0, none⟩), .int .i64 0]) ∧ Fr x x' (TC c0) w w' ∧ TI x' c0 w' sb db eb cb pm (fun _ => 0) (newP n) 0 ∧ Below w.heap.size w w' := by
  have hmm := @run_makeMap Tryz.prog
  have a1 : decide ((n : Int) < 1) = false := decide_eq_false (by omega)
  have a2 : decide ((1024 : Int) < (n : Int)) = false := decide_eq_false (by omega)
  go_enter Tryz.func11, Tryz.ntmps11
  go_wp2_with fail
  refine (New_any x c0 n h1 (by omega) _).mono ?_
  rintro e w1 ⟨cb, x1, rfl, f1, c1, b1⟩
  have F1 := Lib.hid f1
  have C1 := Lib.hid c1
  have B1 := Lib.hid b1
  clear f1 c1 b1
  go_wp2_with fail
  refine bodyPost_ret (v := .tuple #[.pointer (some ⟨w1.heap.size + 1, 0, none⟩), .int .i64 0]) (by simp [results, Tryz.f11, go_sem]) rfl ?_
  obtain ⟨o2, ho2⟩ : ∃ o, o = Obj.cells (spCells (newP n) db eb cb w1.heap.size) 116 := ⟨_, rfl⟩
  have hz := B1.out.size
  have B2 : Below w.heap.size w ((w1.alloc (.map #[] 0)).alloc o2) := ((B1.out.alloc hz _).alloc (by simp; omega) _)
  have hsb : ((w1.alloc (.map #[] 0)).alloc o2).heap[w1.heap.size + 1]? = some o2 := by
    have := World.alloc_heap_new (w1.alloc (.map #[] 0)) o2
    rwa [World.size_alloc] at this
  have hm : VM ((w1.alloc (.map #[] 0)).alloc o2) w1.heap.size 0 (fun _ => none) 0 := (VM.made w1).frame (Below.heap_alloc _ _ _ (by simp))
  have B3 : Below w1.heap.size w1 ((w1.alloc (.map #[] 0)).alloc o2) := ((Below.refl _ w1).alloc (Nat.le_refl _) _).alloc (by simp) _
  obtain ⟨x2, hx2⟩ : ∃ f : Nat → Nat, f = fun b => if b < w1.heap.size then x1 b else if b = w1.heap.size + 1 then c0 + 7 else c0 + 8 := ⟨_, rfl⟩
  have e1 : ∀ b, b < w1.heap.size → x2 b = x1 b := fun b hb => by rw [hx2]; exact if_pos hb
  have e2 : x2 (w1.heap.size + 1) = c0 + 7 := by
    rw [hx2]
    show (if w1.heap.size + 1 < w1.heap.size then _ else _) = _
    rw [if_neg (by omega), if_pos rfl]
  have e3 : x2 w1.heap.size = c0 + 8 := by
    rw [hx2]
    show (if w1.heap.size < w1.heap.size then _ else _) = _
    rw [if_neg (by omega), if_neg (by omega)]
  have f2 : Fr x1 x2 (fun e => e = c0 + 7 ∨ e = c0 + 8) w1 ((w1.alloc (.map #[] 0)).alloc o2) := by
    refine ⟨B3.os, B3.tape, B3.output, B3.size, e1, fun b h3 h4 => ?_, fun b hb _ => B3.block b hb⟩
    rw [hx2]
    show (if b < w1.heap.size then x1 b else if b = w1.heap.size + 1 then c0 + 7 else c0 + 8) = c0 + 7 ∨ _
    rw [if_neg (by omega)]
    split
    · exact .inl rfl
    · rename_i h5
      right
      show (if b < w1.heap.size then x1 b else if b = w1.heap.size + 1 then c0 + 7 else c0 + 8) = c0 + 8
      rw [if_neg (by omega), if_neg h5]
  have goal2 : Fr x x2 (TC c0) w ((w1.alloc (.map #[] 0)).alloc o2) ∧ TI x2 c0 ((w1.alloc (.map #[] 0)).alloc o2) (w1.heap.size + 1) db eb cb w1.heap.size (fun _ => 0) (newP n) 0 := by
    refine ⟨(F1.out.mono (CD_TC c0)).trans (f2.mono (fun e he => by rcases he with rfl | rfl <;> exact ⟨⟨by omega, by omega⟩, by omega⟩)), ⟨by rw [hsb, ho2], e2, C1.out.frame f2 (fun e he hc => by have := he.2; omega), e3, hm, fun k p _ hp => (by cases hp), fun k k' _ _ hk => (by cases hk), Nat.le_refl _, Nat.le_refl _, Nat.le_refl _, Nat.le_refl _, Nat.le_refl _, fun k p _ hp => (by cases hp)⟩⟩
  subst ho2
  exact ⟨_, cb, _, x2, rfl, goal2.1, goal2.2, B2⟩

/-! ### Fill -/
def dbl (size : Nat) : Nat → ByteArray → ByteArray
  | 0, t => t
  | f + 1, t => if t.size < size then dbl size f (t ++ t) else t
def fillS (s : ByteArray) (size : Nat) : ByteArray := (dbl size size (if s.size = 0 then ⟨#[0]⟩ else s)).extract 0 size
theorem dbl_big {size f : Nat} {t : ByteArray} (h : size ≤ t.size) : dbl size f t = t := by
  cases f with
  | zero => rfl
  | succ f => show (if t.size < size then _ else _) = _; rw [if_neg (by omega)]
theorem dbl_size (size : Nat) : ∀ (f : Nat) (t : ByteArray), 0 < t.size → size ≤ t.size + f → size ≤ (dbl size f t).size
  | 0, t, _, h => h
  | f + 1, t, h0, h => by
    show size ≤ (if t.size < size then dbl size f (t ++ t) else t).size
    by_cases hs : t.size < size
    · rw [if_pos hs]
      exact dbl_size size f _ (by rw [ByteArray.size_append]; omega) (by rw [ByteArray.size_append]; omega)
    · rw [if_neg hs]; omega
theorem fillS_size (s : ByteArray) (size : Nat) : (fillS s size).size = size := by
  unfold fillS
  have h := dbl_size size size (if s.size = 0 then ⟨#[0]⟩ else s) (by split; exact Nat.zero_lt_one; omega) (by omega)
  rw [ByteArray.size_extract]
  omega

set_option maxRecDepth 100000 in
set_option maxHeartbeats 1600000 in
theorem Fill_any (w : World) (s : ByteArray) (size : Nat) (hs : s.size ≤ 9223372036854775807) (hz : size ≤ 4611686018427387904) :
    Calls Tryz.prog 34 #[.string s, .int .i64 size] w fun e w' => e = .returned (.string (fillS s size)) ∧ w = w' := by
  by_cases h0 : s.size = 0
  · have he : s = ⟨#[]⟩ := by
      rcases s with ⟨d⟩
      have : d.size = 0 := h0
      rw [Array.eq_empty_of_size_eq_zero this]
    subst he
    clear h0 hs
    go_enter Tryz.func34, Tryz.ntmps34
    go_wp2_with fail
    go_loop [0] (fun v => ∃ (f : Nat) (t : ByteArray), v = .string t ∧ 0 < t.size ∧ t.size ≤ 9223372036854775807 ∧ size ≤ t.size + f ∧ dbl size f t = dbl size size ⟨#[0]⟩) (fun v => match v with | .string t => size - t.size | _ => 0)
    case atStart => exact ⟨size, ⟨#[0]⟩, rfl, by decide, by decide, by omega, rfl⟩
    case round =>
      obtain ⟨f, t, rfl, h1, h2, h3, h4⟩ := hrel
      have H4 := Lib.hid h4
      clear h4
      by_cases hlt : t.size < size
      · obtain ⟨f, rfl⟩ : ∃ g, f = g + 1 := ⟨f - 1, by omega⟩
        have e : Hid (dbl size f (t ++ t) = dbl size size ⟨#[0]⟩) := Lib.hid (by
          have := H4.out
          rw [← this]
          show _ = (if t.size < size then _ else _)
          rw [if_pos hlt])
        have hsz : (t ++ t).size = t.size + t.size := ByteArray.size_append
        have HSZ := Lib.hid hsz
        clear hsz
        go_wp2_with fail
        go_round
        case rel => exact ⟨f, t ++ t, rfl, by rw [HSZ.out]; omega, by rw [HSZ.out]; omega, by rw [HSZ.out]; omega, e.out⟩
        case measure => (show size - (t ++ t).size < size - t.size); rw [HSZ.out]; omega
      · have e : Hid (t = dbl size size ⟨#[0]⟩) := Lib.hid (by rw [← H4.out, dbl_big (by omega)])
        go_wp2_with fail
        go_ret
        exact ⟨by unfold fillS; rw [if_pos (show (⟨#[]⟩ : ByteArray).size = 0 from rfl), ← e.out]; rfl, rfl⟩
  · have hne : s.toList.isEmpty = false := by
      rw [ByteArray.toList_eq]
      cases hl : s.data.toList with
      | nil =>
        exfalso
        apply h0
        show s.data.size = 0
        rw [← Array.length_toList, hl]; rfl
      | cons a l => rfl
    have E0 := Lib.hid h0
    have hp0 : 0 < s.size := by omega
    clear h0
    go_enter Tryz.func34, Tryz.ntmps34
    go_wp2_with fail
    go_loop [0] (fun v => ∃ (f : Nat) (t : ByteArray), v = .string t ∧ 0 < t.size ∧ t.size ≤ 9223372036854775807 ∧ size ≤ t.size + f ∧ dbl size f t = dbl size size s) (fun v => match v with | .string t => size - t.size | _ => 0)
    case atStart => exact ⟨size, s, rfl, by omega, by omega, by omega, rfl⟩
    case round =>
      obtain ⟨f, t, rfl, h1, h2, h3, h4⟩ := hrel
      have H4 := Lib.hid h4
      clear h4
      by_cases hlt : t.size < size
      · obtain ⟨f, rfl⟩ : ∃ g, f = g + 1 := ⟨f - 1, by omega⟩
        have e : Hid (dbl size f (t ++ t) = dbl size size s) := Lib.hid (by
          have := H4.out
          rw [← this]
          show _ = (if t.size < size then _ else _)
          rw [if_pos hlt])
        have hsz : (t ++ t).size = t.size + t.size := ByteArray.size_append
        have HSZ := Lib.hid hsz
        clear hsz
        go_wp2_with fail
        go_round
        case rel => exact ⟨f, t ++ t, rfl, by rw [HSZ.out]; omega, by rw [HSZ.out]; omega, by rw [HSZ.out]; omega, e.out⟩
        case measure => (show size - (t ++ t).size < size - t.size); rw [HSZ.out]; omega
      · have e : Hid (t = dbl size size s) := Lib.hid (by rw [← H4.out, dbl_big (by omega)])
        go_wp2_with fail
        go_ret
        exact ⟨by unfold fillS; rw [if_neg E0.out, ← e.out]; rfl, rfl⟩

end Go.Proofs.YtbgbomlmgkgkoaaGreat.arcI
