/- Own lemmas, laid together. -/
import Derived.Test.YtflnpcgnenhogaaGreatDoorBk7
import Derived.BigQuiet
import Derived.BigRegion
import Derived.Deep.CutRange
import Derived.Laws.BytesArg
namespace Go.Proofs.YtflnpcgnenhogaaGreatDoor.bit
open Go.RowKit Go.Proofs.YtflnpcgnenhogaaGreatDoor.own

/-- bytes as a text -/
def txt (l : List Nat) : ByteArray := ⟨(l.map UInt8.ofNat).toArray⟩
theorem txt_append (a b : List Nat) : txt a ++ txt b = txt (a ++ b) := by
 apply ByteArray.ext
 simp [txt]
theorem txt_size (l : List Nat) : (txt l).size = l.length := by
 show (l.map UInt8.ofNat).toArray.size = l.length
 simp

theorem Put_ok (x : Nat → Nat) (c : Nat) (w : World) (wb : Nat) (l : Bits) (v n : Nat) (hv : v < 2 ^ n) (hn : n ≤ 64) (hl : l.length + n ≤ 134217728) (h : WrC x c w wb l) :
  Calls Tryz.prog 125 #[.pointer (some ⟨wb, 0, none⟩), .int .u64 (v : Int), .int .i64 (n : Int)] w fun e w' => e = .returned (.int .i64 0) ∧ ∃ x', Fr x x' (fun e => e = c) w w' ∧ WrC x' c w' wb (l ++ ofN n v) := by
 have H := Lib.hid h
 have FI := Lib.hid (fits_any v n w)
 have D : Hid (decide (64 ≤ n ∨ v < 2 ^ n) = true) := Lib.hid (decide_eq_true (.inr hv))
 have PU := Lib.hid (put_any x c w wb l v n hv hn hl h)
 have c1 : w.cell? ⟨wb, 1, none⟩ = some (.int .i64 (l.length : Int)) := by obtain ⟨_, h0, _⟩ := h; rw [cell_of_row w wb _ _ _ _ h0]; rfl
 obtain ⟨ll, hll⟩ : ∃ k, l.length = k := ⟨_, rfl⟩
 rw [hll] at c1 hl
 have i1 : ¬ (n : Int) < 0 := by omega
 have i2 : ¬ (64 : Int) < (n : Int) := by omega
 have i3 : ¬ (134217728 : Int) - (ll : Int) < (n : Int) := by omega
 have hw : IntKind.i64.wrap ((134217728 : Int) - (ll : Int)) = 134217728 - (ll : Int) := IntWalk.i64_in _ (by omega)
 clear h hv hn hl
 go_enter Tryz.func125, Tryz.ntmps125
 go_wp2_with fail
 refine FI.out.mono ?_
 rintro e w1 ⟨rfl, rfl⟩
 rw [D.out]
 go_wp2_with fail
 refine PU.out.mono ?_
 rintro e w1 ⟨rfl, x', hf, hW⟩
 have HF := Lib.hid hf
 have HW := Lib.hid hW
 clear hf hW
 go_wp2_with fail
 go_ret
 exact ⟨rfl, x', HF.out, HW.out⟩

theorem text_any (x : Nat → Nat) (c : Nat) (w : World) (wb : Nat) (l : Bits) (h : WrC x c w wb l) :
  Calls Tryz.prog 60 #[.pointer (some ⟨wb, 0, none⟩)] w fun e w' => e = .returned (.tuple #[.string (txt (packN l)), .int .i64 0]) ∧ w = w' := by
 obtain ⟨v, h0, _, ho, _⟩ := h
 have c0 : w.cell? ⟨wb, 0, none⟩ = some v := by rw [cell_of_row w wb _ _ _ _ h0]; rfl
 obtain ⟨a, cap, hv⟩ := own_shape ho
 have hconv : (convert 139 9 v).run Tryz.prog w = .ok (.string (txt (packN l))) w := by
  rcases ho.2 with ⟨hv, hz⟩ | ⟨g, cap, cur, hv, _⟩
  ·have hp : packN l = [] := List.eq_nil_of_length_eq_zero hz
   rw [hv, hp]
   exact run_convert_bytes_nil (P := Tryz.prog) w 139 5 (by kernel_rfl) (by kernel_rfl) 0 0 9 (by kernel_rfl)
  ·have hc := run_convert_bytes_back (P := Tryz.prog) w 139 9 5 ⟨g, 0, none⟩ cap ((packN l).map UInt8.ofNat) (by kernel_rfl) (by kernel_rfl) (by kernel_rfl) (fun j hj => by
    have hj' : j < (packN l).length := by simpa using hj
    rw [hv] at ho
    rw [Addr.add_lit, Nat.zero_add, ho.cellAt j (by omega)]
    have hlt := packN_lt l _ (List.getElem_mem hj')
    simp [nvs, hj']
    omega)
   rw [List.length_map] at hc
   rw [hv]
   exact hc
 subst hv
 clear h0 ho
 go_enter Tryz.func60, Tryz.ntmps60
 go_wp2_with fail
 go_ret2
 exact ⟨rfl, rfl⟩
end Go.Proofs.YtflnpcgnenhogaaGreatDoor.bit
namespace Go.Proofs.YtflnpcgnenhogaaGreatDoor.bit
open Go.RowKit Go.Proofs.YtflnpcgnenhogaaGreatDoor.own

/-- a reader of a text, at a place -/
def RdC (x : Nat → Nat) (c : Nat) (w : World) (rb : Nat) (s : ByteArray) (a : Nat) : Prop :=
 w.heap[rb]? = some (.cells #[.string s, .int .i64 (a : Int)] 96 (0, 0)) ∧ x rb = c ∧ a ≤ 8 * s.size ∧ s.size ≤ 1152921504606846975

/-- on the way through Take: the reader is at a, so far v was read -/
structure TS (w : World) (rb pb vb : Nat) (s : ByteArray) (a v : Nat) (wr : World) : Prop where
 kp : Keeps w wr (fun b => b = rb)
 rd : wr.heap[rb]? = some (.cells #[.string s, .int .i64 (a : Int)] 96 (0, 0))
 pt : wr.cell? ⟨pb, 0, none⟩ = some (.pointer (some ⟨rb, 0, none⟩))
 va : wr.heap[vb]? = some (.cells #[.int .u64 (v : Int)] 97 (0, 0))
end Go.Proofs.YtflnpcgnenhogaaGreatDoor.bit
