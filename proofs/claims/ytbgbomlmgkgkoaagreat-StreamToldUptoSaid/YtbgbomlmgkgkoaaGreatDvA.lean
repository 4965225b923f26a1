/- blockdev: a device in memory; what its small methods answer. -/
import Derived.Test.YtbgbomlmgkgkoaaGreatDvP
import Derived.Deep.QuietTactic
import Derived.Test.YtbgbomlmgkgkoaaGreatPoMap
import Derived.Laws.OwnMore
import Derived.Laws.IdiomStrings
namespace Go.Proofs.YtbgbomlmgkgkoaaGreat.dv
open Go.RowKit Go.Proofs.YtbgbomlmgkgkoaaGreat.own Go.Proofs.YtbgbomlmgkgkoaaGreat.po

def devCells (D : Dev) (sm : Nat) (cv : Value) : Array Value :=
  #[.int .i64 0, .slice none 0 0, .int .i64 0, .int .u8 0, .int .i64 D.nb, .int .i64 D.ns, .map (some sm), cv, .bool D.down, .int .i64 D.calls, .int .i64 D.reads]
/-- the cells of writes that are not safe -/
def wvs (l : List (Int × ByteArray)) : List Value := l.flatMap fun p => [.int .i64 p.1, .string p.2]
theorem wvs_len (l : List (Int × ByteArray)) : (wvs l).length = l.length * 2 := by
  induction l with
  | nil => rfl
  | cons p l ih => show (wvs l).length + 1 + 1 = _; rw [ih, List.length_cons]; omega
theorem wvs_snoc (l : List (Int × ByteArray)) (p : Int × ByteArray) : wvs (l ++ [p]) = wvs l ++ [.int .i64 p.1, .string p.2] := by simp [wvs]
theorem wvs_get : ∀ (l : List (Int × ByteArray)) (k : Nat) (h : k < l.length), (wvs l)[k * 2]? = some (.int .i64 l[k].1) ∧ (wvs l)[k * 2 + 1]? = some (.string l[k].2)
  | [], k, h => absurd h (Nat.not_lt_zero _)
  | p :: l, 0, _ => ⟨rfl, rfl⟩
  | p :: l, k + 1, h => by
    have ih := wvs_get l k (Nat.lt_of_succ_lt_succ h)
    have e : (k + 1) * 2 = k * 2 + 2 := by omega
    rw [e]
    exact ⟨ih.1, ih.2⟩

def textV (t : ByteArray) : Value := .string t
def DIs (x : Nat → Nat) (d0 : Nat) (w : World) (db : Nat) (D : Dev) (N : Nat) : Prop :=
  ∃ sm cv n Nm, w.heap[db]? = some (.cells (devCells D sm cv) 155 (0, 0)) ∧ x db = d0 ∧ x sm = d0 + 1 ∧ VM w sm Nm (fun k => (D.safe k).map textV) n ∧
    w.ownsRow 0 157 2 cv D.cache.length (wvs D.cache) ∧ (∀ b, cv.ownBlock = some b → x b = d0 + 2) ∧ D.calls ≤ N ∧ D.reads ≤ N ∧ Nm + D.cache.length ≤ N

/-- the colours of a device's blocks -/
def DC (d0 : Nat) : Nat → Prop := fun e => d0 ≤ e ∧ e ≤ d0 + 2

theorem DIs.frame {x x' : Nat → Nat} {C : Nat → Prop} {d0 : Nat} {w w' : World} {db : Nat} {D : Dev} {N : Nat} (h : DIs x d0 w db D N) (hf : Fr x x' C w w') (hC : ∀ e, DC d0 e → ¬ C e) : DIs x' d0 w' db D N := by
  obtain ⟨sm, cv, n, Nm, h0, hx, hs, hm, hr, hc, h1, h2, h3⟩ := h
  have hlt := lt_of_block h0
  refine ⟨sm, cv, n, Nm, ?_, ?_, ?_, ?_, ?_, ?_, h1, h2, h3⟩
  · rw [hf.old db hlt (by rw [hx]; exact hC _ ⟨Nat.le_refl _, by omega⟩)]; exact h0
  · rw [hf.col db hlt]; exact hx
  · rw [hf.col sm hm.lt]; exact hs
  · exact hm.frame (hf.old sm hm.lt (by rw [hs]; exact hC _ ⟨by omega, by omega⟩))
  · refine ⟨hr.1, ?_⟩
    rcases hr.2 with hn | ⟨g, cap, cur, hv, hb, hg, r⟩
    · exact .inl hn
    · refine .inr ⟨g, cap, cur, hv, hb, ?_, r⟩
      have hx := hc g (by rw [hv]; rfl)
      rw [hf.old g (lt_of_block hg) (by rw [hx]; exact hC _ ⟨by omega, by omega⟩)]
      exact hg
  · intro b hb
    have := hr.lt b hb
    rw [hf.col b this.2]; exact hc b hb
theorem DIs.mono {x : Nat → Nat} {d0 : Nat} {w : World} {db : Nat} {D : Dev} {N N' : Nat} (h : DIs x d0 w db D N) (hN : N ≤ N') : DIs x d0 w db D N' := by
  obtain ⟨sm, cv, n, Nm, h0, hx, hs, hm, hr, hc, h1, h2, h3⟩ := h
  exact ⟨sm, cv, n, Nm, h0, hx, hs, hm, hr, hc, by omega, by omega, by omega⟩
theorem DIs.drewN {x : Nat → Nat} {d0 : Nat} {w : World} {db : Nat} {D : Dev} {N : Nat} (h : DIs x d0 w db D N) (n : Nat) : DIs x d0 (w.drewN n) db D N := h
theorem DIs.below {x : Nat → Nat} {d0 : Nat} {w w' : World} {db : Nat} {D : Dev} {N : Nat} (h : DIs x d0 w db D N) (hb : Below w.heap.size w w') {x' : Nat → Nat} (hx : ∀ b, b < w.heap.size → x' b = x b) : DIs x' d0 w' db D N := by
  obtain ⟨sm, cv, n, Nm, h0, hx0, hs, hm, hr, hc, r⟩ := h
  have e0 : w'.heap[db]? = w.heap[db]? := hb.block db (lt_of_block h0)
  refine ⟨sm, cv, n, Nm, by rw [e0]; exact h0, by rw [hx _ (lt_of_block h0)]; exact hx0, by rw [hx _ hm.lt]; exact hs, hm.frame (hb.block sm hm.lt), own_below hr hb, fun b hb' => by rw [hx _ (hr.lt b hb').2]; exact hc b hb', r⟩

/-- the cells of a device that its methods read -/
theorem dev_cells {x : Nat → Nat} {d0 : Nat} {w : World} {db : Nat} {D : Dev} {N : Nat} (h : DIs x d0 w db D N) :
    w.cell? ⟨db, 0, none⟩ = some (.int .i64 0) ∧ w.cell? ⟨db, 4, none⟩ = some (.int .i64 D.nb) ∧ w.cell? ⟨db, 5, none⟩ = some (.int .i64 D.ns) ∧ w.cell? ⟨db, 8, none⟩ = some (.bool D.down) ∧ w.cell? ⟨db, 9, none⟩ = some (.int .i64 D.calls) ∧ w.cell? ⟨db, 10, none⟩ = some (.int .i64 D.reads) ∧ (∀ j, w.frozen? ⟨db, j, none⟩ = false) ∧ D.calls ≤ N ∧ D.reads ≤ N ∧ D.cache.length ≤ N := by
  obtain ⟨sm, cv, n, Nm, h0, _, _, _, _, _, h1, h2, h3⟩ := h
  refine ⟨?_, ?_, ?_, ?_, ?_, ?_, fun j => frozen_of_row w _ j _ _ h0, h1, h2, by omega⟩
  all_goals (rw [cell_of_row w db _ _ _ _ h0]; rfl)

theorem has_any (x : Nat → Nat) (d0 db : Nat) (D : Dev) (N : Nat) (w : World) (n : Int) (h : DIs x d0 w db D N) (h0 : 0 ≤ n) (h1 : n < D.nb) :
    Calls Tryz.prog 58 #[.pointer (some ⟨db, 0, none⟩), .int .i64 n] w fun e w' => e = .returned (.bool true) ∧ w = w' := by
  obtain ⟨_, c4, _, _, _, _, _, _, _, _⟩ := dev_cells h
  clear h
  go_enter Tryz.func58, Tryz.ntmps58
  go_wp2_with fail
  go_ret
  exact ⟨rfl, rfl⟩

theorem ready_any (x : Nat → Nat) (d0 db : Nat) (D : Dev) (N : Nat) (w : World) (h : DIs x d0 w db D N) (hd : D.down = false) :
    Calls Tryz.prog 92 #[.pointer (some ⟨db, 0, none⟩)] w fun e w' => e = .returned (.int .i64 0) ∧ w = w' := by
  obtain ⟨_, _, _, c8, _⟩ := dev_cells h
  rw [hd] at c8
  clear h hd
  go_enter Tryz.func92, Tryz.ntmps92
  go_wp2_with fail
  go_ret
  exact ⟨rfl, rfl⟩
theorem ready_down (x : Nat → Nat) (d0 db : Nat) (D : Dev) (N : Nat) (w : World) (h : DIs x d0 w db D N) (hd : D.down = true) :
    Calls Tryz.prog 92 #[.pointer (some ⟨db, 0, none⟩)] w fun e w' => e = .returned (.int .i64 8) ∧ w = w' := by
  obtain ⟨_, _, _, c8, _⟩ := dev_cells h
  rw [hd] at c8
  clear h hd
  go_enter Tryz.func92, Tryz.ntmps92
  go_wp2_with fail
  go_ret
  exact ⟨rfl, rfl⟩
theorem Size_any (x : Nat → Nat) (d0 db : Nat) (D : Dev) (N : Nat) (w : World) (h : DIs x d0 w db D N) (ok : D.Ok) :
    Calls Tryz.prog 55 #[.pointer (some ⟨db, 0, none⟩)] w fun e w' => e = .returned (.int .i64 (D.size : Nat)) ∧ w = w' := by
  obtain ⟨_, _, c5, _⟩ := dev_cells h
  have b := ok.sectors
  have e : ((D.ns : Int) * 512) = ((D.size : Nat) : Int) := by unfold Dev.size; omega
  have b2 : D.size ≤ 4096 := by unfold Dev.size; omega
  have E := Lib.hid e
  clear h e ok
  go_enter Tryz.func55, Tryz.ntmps55
  go_wp2_with fail
  go_ret
  exact ⟨by rw [← E.out]; rfl, rfl⟩
theorem Blocks_any (x : Nat → Nat) (d0 db : Nat) (D : Dev) (N : Nat) (w : World) (h : DIs x d0 w db D N) :
    Calls Tryz.prog 56 #[.pointer (some ⟨db, 0, none⟩)] w fun e w' => e = .returned (.int .i64 (D.nb : Nat)) ∧ w = w' := by
  obtain ⟨_, c4, _⟩ := dev_cells h
  clear h
  go_enter Tryz.func56, Tryz.ntmps56
  go_wp2_with fail
  go_ret
  exact ⟨rfl, rfl⟩
theorem Down_any (x : Nat → Nat) (d0 db : Nat) (D : Dev) (N : Nat) (w : World) (h : DIs x d0 w db D N) :
    Calls Tryz.prog 87 #[.pointer (some ⟨db, 0, none⟩)] w fun e w' => e = .returned (.bool D.down) ∧ w = w' := by
  obtain ⟨_, _, _, c8, _⟩ := dev_cells h
  clear h
  go_enter Tryz.func87, Tryz.ntmps87
  go_wp2_with fail
  go_ret
  exact ⟨rfl, rfl⟩

theorem Tryz.infoByte9 : (Tryz.prog.info? 5).map (fun i => (i.zero, i.size, i.bytes)) = some (some (.int .u8 0), 1, 1) := by kernel_rfl
/-- a text of noughts, made new -/
theorem zeros_string (w : World) (N : Nat) (hN : N ≤ 16777217) : ∃ w1, (Instr.makeSlice 55 (.int .i64 (N : Int)) (.int .i64 (N : Int))).run Tryz.prog w = .ok (.slice (some ⟨w.heap.size, 0, none⟩) N N) w1 ∧
    (convert 55 9 (.slice (some ⟨w.heap.size, 0, none⟩) N N)).run Tryz.prog w1 = .ok (.string (zerosB N)) w1 ∧ Below w.heap.size w w1 := by
  obtain ⟨i0, hi, hz0, hz1, hz2⟩ := info_parts Tryz.infoByte9
  obtain ⟨w1, hrun, hown, hg⟩ := run_make_full w 0 55 5 i0 _ 1 (by kernel_rfl) hi hz0 hz1 .i64 .i64 N (by rw [hz2]; omega) (by simp only [maxLen]; omega) (Nat.zero_le _)
  have hc := run_convert_bytes_back (P := Tryz.prog) w1 55 9 5 ⟨w.heap.size, 0, none⟩ N (List.replicate N (0 : UInt8)) (by kernel_rfl) (by kernel_rfl) (by kernel_rfl) (fun j hj => by
    have hj' : j < N := by simpa using hj
    rw [Addr.add_lit, Nat.zero_add, hown.cellAt j (by omega)]
    have e : (Value.int .u8 0).cells = #[.int .u8 0] := rfl
    rw [e, toList_madeCells_one, List.getElem?_replicate, if_pos (by omega), List.getElem_replicate]
    rfl)
  rw [List.length_replicate] at hc
  exact ⟨w1, hrun, hc, ⟨hg.os, hg.tape, hg.output, hg.size, fun k hk => hg.block k hk (by simp)⟩⟩

theorem kept_any (x : Nat → Nat) (d0 db : Nat) (D : Dev) (N : Nat) (w : World) (n : Int) (h : DIs x d0 w db D N) (ok : D.Ok) (hn : KOK n) :
    Calls Tryz.prog 60 #[.pointer (some ⟨db, 0, none⟩), .int .i64 n] w fun e w' => e = .returned (.string (D.kept n)) ∧ Below w.heap.size w w' := by
  have H := Lib.hid h
  have OK := Lib.hid ok
  have b2 : D.size ≤ 4096 := by have := ok.sectors; unfold Dev.size; omega
  obtain ⟨sm, cv, m, Nm, h0, hx, hs, hm, hr, hc, h1, h2, h3⟩ := h
  have c6 : w.cell? ⟨db, 6, none⟩ = some (.map (some sm)) := by rw [cell_of_row w db _ _ _ _ h0]; rfl
  have hl0 := hm.look_ok hn (t := 152) (e := 9) Tryz.underlying152 (z := .string ⟨#[]⟩) (by kernel_rfl)
  clear h0 hx hs hm hr hc h1 h2 h3
  rcases hsf : D.safe n with _ | t
  · have R : Hid (D.kept n = zerosB D.size) := Lib.hid (by unfold Dev.kept; rw [hsf]; rfl)
    have hl : (Instr.lookup 152 (.map (some sm)) (.int .i64 n) true).run Tryz.prog w = .ok (.tuple #[.string ⟨#[]⟩, .bool false]) w := by rw [hl0, hsf]; rfl
    clear hsf hl0
    go_enter Tryz.func60, Tryz.ntmps60
    go_wp2_with fail
    refine (Size_any x d0 db D N _ H.out OK.out).mono ?_
    rintro e w1 ⟨rfl, rfl⟩
    obtain ⟨w1, hmk, hcv, hb⟩ := zeros_string w D.size (by omega)
    have B := Lib.hid hb
    clear hb
    go_wp2_with fail
    go_ret
    exact ⟨by rw [R.out]; rfl, B.out⟩
  · have R : Hid (D.kept n = t) := Lib.hid (by unfold Dev.kept; rw [hsf]; rfl)
    have hl : (Instr.lookup 152 (.map (some sm)) (.int .i64 n) true).run Tryz.prog w = .ok (.tuple #[.string t, .bool true]) w := by rw [hl0, hsf]; rfl
    clear hsf hl0
    go_enter Tryz.func60, Tryz.ntmps60
    go_wp2_with fail
    go_ret
    exact ⟨by rw [R.out]; rfl, Below.refl _ _⟩

end Go.Proofs.YtbgbomlmgkgkoaaGreat.dv
