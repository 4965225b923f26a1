/- The contract of named: texts are the names of numbers. -/
import Derived.BigQuiet
import Derived.BigRegion
import Derived.Deep.RegionHeld3
import Derived.Lib.AppendIntMem
import Derived.Test.YthcdfdkhmlkneaaDoorArcN1
namespace Go.Proofs.YthcdfdkhmlkneaaDoor.arcN
open Go.RowKit Go.Proofs.YthcdfdkhmlkneaaDoor.own

theorem wf_bounds {k : Int} (h : (Lit.int .i64 k).wf = true) : -9223372036854775808 ≤ k ∧ k ≤ 9223372036854775807 := by
  simp [Lit.wf, IntKind.min, IntKind.max, IntKind.signed, IntKind.bits] at h
  omega
/-- what was there is there as it was; the table of powers, too -/
def NB (w0 w : World) : Prop := Below w0.heap.size w0 w
def HasTab (w : World) : Prop := Lib.TabIs Tryd.prog w "internal/strconv.uint64pow10" .u64 Lib.pow10Tab
theorem gTab : Tryd.prog.globalNamed "internal/strconv.uint64pow10" = some 0 := by kernel_rfl
theorem HasTab.later {w w' : World} (h : HasTab w) (hb : w'.heap[0]? = w.heap[0]?) : HasTab w' := by
  unfold HasTab Lib.TabIs World.var? at h ⊢
  rw [gTab] at h ⊢
  simp only [Option.bind_some] at h ⊢
  rw [hb]
  exact h
theorem HasTab.lt {w : World} (h : HasTab w) : 0 < w.heap.size := by
  rcases Nat.eq_zero_or_pos w.heap.size with h0 | h0
  · unfold HasTab Lib.TabIs World.var? at h
    rw [gTab] at h
    simp [Array.getElem?_eq_none (show w.heap.size ≤ 0 by omega)] at h
  · exact h0
theorem NB.refl (w : World) : NB w w := Below.refl _ _
theorem NB.drew {w0 w : World} (h : NB w0 w) : NB w0 w.drew := Below.drew h
theorem NB.tab {w0 w : World} (h : NB w0 w) (ht : HasTab w0) : HasTab w := ht.later (h.block 0 ht.lt)
theorem NB.cell {w0 w : World} (h : NB w0 w) {g o : Nat} {u : Value} (hg : g < w0.heap.size) (hc : w0.cell? ⟨g, o, none⟩ = some u) : w.cell? ⟨g, o, none⟩ = some u := by
  rw [World.cell?_of_block (w := w0) (w' := w) (h.block g hg)]; exact hc

theorem itoa_any (n : Int) (hwf : (Lit.int .i64 n).wf = true) (w0 w : World) (hn : NB w0 w) (ht : HasTab w0) :
    Calls Tryd.prog 7 #[.int .i64 n] w fun e w' => e = .returned (.string ⟨(Lib.itoa n).toArray⟩) ∧ NB w0 w' := by
  have hb := wf_bounds hwf
  refine (Tryd.strconv_Itoa n hb.1 hb.2 w (hn.tab ht)).mono ?_
  rintro e w' ⟨rfl, k, os, rfl⟩
  exact ⟨rfl, hn.trans (Lib.below_grow _ _ hn.size k os)⟩

theorem name_eq (k : Int) : (({ data := #[120] } : ByteArray) ++ { data := (Lib.itoa k).toArray }) = ⟨List.toArray (nm k)⟩ := by
  apply ByteArray.ext
  simp [nm]

theorem bytes_same (l : List UInt8) : ({ data := l.toArray } : ByteArray).toList = l := by rw [ByteArray.toList_eq]

/-- what stands in a round of named -/
def NS (w0 : World) (ga gb k : Nat) (n : Int) (w' : World) : Prop := w'.cell? ⟨ga, k, none⟩ = some (.int .i64 n) ∧ w'.cell? ⟨gb, k, none⟩ = some (.string ⟨List.toArray (nm n)⟩) ∧ NB w0 w'

theorem ns_mk {w0 : World} {ga gb k : Nat} {n : Int} (hga : ga < w0.heap.size) (ca : w0.cell? ⟨ga, k, none⟩ = some (.int .i64 n)) (hgb : gb < w0.heap.size) (cb : w0.cell? ⟨gb, k, none⟩ = some (.string ⟨List.toArray (nm n)⟩)) {w' : World} (h : NB w0 w') :
    w'.cell? ⟨ga, k, none⟩ = some (.int .i64 n) ∧ w'.cell? ⟨gb, k, none⟩ = some (.string ⟨List.toArray (nm n)⟩) ∧ NB w0 w' := ⟨h.cell hga ca, h.cell hgb cb, h⟩
theorem ns_nb {A B : Prop} {w0 w' : World} (h : A ∧ B ∧ NB w0 w') : NB w0 w' := h.2.2

set_option maxHeartbeats 6400000 in
theorem named_any (la : List Int) (hla : ∀ k ∈ la, (Lit.int .i64 k).wf = true) (ba bb : Nat) (va vb : Value) (w : World) (ra : arcI.isRow w ba va la) (rb : arcS.isRow w bb vb (la.map nm)) (ht : HasTab w) :
    Calls Tryd.prog 18 #[va, vb] w fun e w' => e = .returned (.bool true) ∧ Below w.heap.size w w' := by
  obtain ⟨aT, cT, rfl, hlm, HA⟩ := arcI.keys_open ra
  obtain ⟨bT, dT, rfl, hlm2, HB⟩ := arcS.keys_open rb
  clear ra rb
  rw [List.length_map] at hlm2 ⊢
  unfold maxLen at hlm
  clear hlm2
  have HT := Lib.hid ht
  clear ht
  go_enter Tryd.func18, Tryd.ntmps18
  go_wp2_with fail
  have B0 := NB.refl w
  go_loopw [5] (fun i wr => ∃ k : Nat, i = .int .i64 k ∧ k ≤ la.length ∧ NB w wr) (fun i _ => la.length - (intOf i).toNat)
  case atStart => exact ⟨0, rfl, Nat.zero_le _, B0⟩
  case round =>
    obtain ⟨k, rfl, hk, hnb⟩ := hrel
    by_cases hlt : k < la.length
    · obtain ⟨ga, rfl, hga, _, ca⟩ := HA.out k hlt
      obtain ⟨gb, rfl, hgb, _, cb⟩ := HB.out k (by simpa using hlt)
      have hwf := hla la[k] (List.getElem_mem hlt)
      obtain ⟨m, hm⟩ : ∃ m, la[k] = m := ⟨_, rfl⟩
      rw [List.getElem_map, hm] at cb
      rw [hm] at ca hwf
      have d1 := hnb.cell hga ca
      have d2 := hnb.cell hgb cb
      have hlen := nm_len m hwf
      have hl2 : (Lib.itoa m).length ≤ 21 := Lib.itoa_length_le m (wf_bounds hwf).1 (wf_bounds hwf).2
      have hov : ¬ (9223372036854775807 < 1 + (Lib.itoa m).length) := by omega
      clear hm hlen
      go_wp2_with fail
      go_region_held3 (fun w' => w'.cell? ⟨ga, k, none⟩ = some (.int .i64 m) ∧ w'.cell? ⟨gb, k, none⟩ = some (.string ⟨List.toArray (nm m)⟩) ∧ NB w w')
        (first
          | exact ns_mk hga ca hgb cb (by assumption)
          | exact ns_mk hga ca hgb cb (NB.drew (by assumption))
          | exact ns_mk hga ca hgb cb (ns_nb (by assumption))
          | exact ns_mk hga ca hgb cb (NB.drew (ns_nb (by assumption))))
        (first
          | (go_at_call 7; refine (itoa_any m hwf w _ ?_ HT.out).mono ?_; (first | assumption | exact NB.drew (by assumption) | exact ns_nb (by assumption) | exact NB.drew (ns_nb (by assumption))); rintro e w' ⟨rfl, hnb'⟩))
      rw [name_eq]
      have hnb2 := ns_nb (by assumption)
      rw [bytes_same, show (nm m == nm m) = true from beq_self_eq_true _]
      go_wp2_with fail
      go_roundw
      case rel => exact ⟨k + 1, by go_num, by omega, hnb2⟩
      case measure => simp [intOf]; omega
    · go_wp2_with fail
      go_ret
      exact ⟨rfl, hnb⟩
end Go.Proofs.YthcdfdkhmlkneaaDoor.arcN
