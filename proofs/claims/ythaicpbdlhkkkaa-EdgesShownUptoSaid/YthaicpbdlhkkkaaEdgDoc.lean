/- Statement EdgesShown: the document's digits, Show. -/
import Derived.Test.YthaicpbdlhkkkaaEdgShow
import Derived.Deep.CutBlock
import Derived.Deep.RegionHeld3
namespace Go.Proofs.Ythaicpbdlhkkkaa.edg
open Go.RowKit Go.Proofs.Ythaicpbdlhkkkaa.own Go.Lib

theorem one_text (W : World) (c : UInt8) :
    (convert 53 9 (.slice (some ⟨W.heap.size, 0, none⟩) 1 1)).run Try.prog (W.alloc (.cells #[.int .u8 (c.toNat : Int)] 5)) = .ok (.string ⟨#[c]⟩) (W.alloc (.cells #[.int .u8 (c.toNat : Int)] 5)) := by
  have hc := run_convert_bytes_back (P := Try.prog) (W.alloc (.cells #[.int .u8 (c.toNat : Int)] 5)) 53 9 5 ⟨W.heap.size, 0, none⟩ 1 [c] (by kernel_rfl) (by kernel_rfl) (by kernel_rfl) (fun j hj => by
    have hj : j = 0 := by simpa using hj
    subst hj
    rw [Addr.add_lit, cell_of_row _ _ _ _ _ _ (heap_alloc_new W _)]
    rfl)
  exact hc
/-- the digits ahead -/
def ahead (m : Nat) : B := if m = 0 then [] else decDigits m
theorem dec_ahead (m : Nat) : decDigits m = ahead (m / 10) ++ [UInt8.ofNat (48 + m % 10)] := by
  unfold ahead
  by_cases h : m < 10
  · rw [if_pos (by omega), decDigits_one h, show m % 10 = m by omega]
    rfl
  · rw [if_neg (by omega)]
    conv => lhs; rw [decDigits, dif_neg h]

set_option maxRecDepth 100000 in
set_option maxHeartbeats 1600000 in
theorem digits_any (n : Nat) (hn : n < 4294967296) (w : World) :
    Calls Try.prog 46 #[.int .u32 (n : Int)] w fun e w' => ∃ S : ByteArray, e = .returned (.string S) ∧ S.data.toList = decDigits n ∧ S.size ≤ 10 ∧ Below w.heap.size w w' := by
  obtain ⟨r, hr⟩ : ∃ r, n % 10 = r := ⟨_, rfl⟩
  have hr10 : r < 10 := by omega
  have q1 : (n : Int).tmod 10 = (r : Int) := by rw [Int.tmod_eq_emod_of_nonneg (by omega)]; omega
  have D0 := Lib.hid (dec_ahead n)
  rw [hr] at D0
  have DL := Lib.hid (decDigits_le hn)
  have T0 := one_text w (UInt8.ofNat (48 + r))
  rw [dig_byte r hr10] at T0
  obtain ⟨ch, hch⟩ : ∃ c, UInt8.ofNat (48 + r) = c := ⟨_, rfl⟩
  rw [hch] at T0 D0
  clear hr hch
  go_enter Try.func46, Try.ntmps46
  go_upto_block 0 with fail
  have B0 : Hid (Below w.heap.size w (w.alloc (.cells #[.int .u8 (48 + (r : Int))] 5))) := Lib.hid ((Below.refl _ _).alloc (Nat.le_refl _) _)
  generalize w.alloc (.cells #[.int .u8 (48 + (r : Int))] 5) = w1 at B0 ⊢
  clear T0 q1
  obtain ⟨S0, hS0⟩ : ∃ S, (⟨#[ch]⟩ : ByteArray) = S := ⟨_, rfl⟩
  have E0 : Hid (decDigits n = ahead (n / 10) ++ S0.data.toList) := Lib.hid (by rw [← hS0]; exact D0.out)
  rw [hS0]
  clear hS0
  go_wp2_with fail
  go_loopw [0, 3] (fun vn vs wr => ∃ (m : Nat) (S : ByteArray), vn = .int .u32 (m : Int) ∧ m < 4294967296 ∧ vs = .string S ∧ decDigits n = ahead m ++ S.data.toList ∧ Below w.heap.size w wr) (fun vn _ _ => (intOf vn).toNat)
  case atStart => exact ⟨n / 10, S0, by congr 1, by omega, rfl, E0.out, B0.out⟩
  case round =>
    obtain ⟨m, S, rfl, hm, rfl, hE, hB⟩ := hrel
    have HE := Lib.hid hE
    have HB := Lib.hid hB
    have sz : S.size ≤ 10 := by
      have h := DL.out
      rw [hE, List.length_append] at h
      have h2 : S.data.toList.length = S.size := by simp
      omega
    by_cases h0 : 0 < m
    · obtain ⟨q, hq⟩ : ∃ q, m % 10 = q := ⟨_, rfl⟩
      have hq10 : q < 10 := by omega
      have q1 : (m : Int).tmod 10 = (q : Int) := by rw [Int.tmod_eq_emod_of_nonneg (by omega)]; omega
      have T1 := one_text wr (UInt8.ofNat (48 + q))
      rw [dig_byte q hq10] at T1
      obtain ⟨c1, hc1⟩ : ∃ c, UInt8.ofNat (48 + q) = c := ⟨_, rfl⟩
      have E1 : Hid (decDigits n = ahead (m / 10) ++ ((⟨#[c1]⟩ : ByteArray) ++ S).data.toList) := Lib.hid (by
        rw [hE]
        have e : ahead m = decDigits m := by unfold ahead; rw [if_neg (by omega)]
        rw [e, dec_ahead m, hq, hc1, List.append_assoc]
        congr 1)
      rw [hc1] at T1
      have i0 : (0 : Int) < (m : Int) := by omega
      have z1 : (⟨#[c1]⟩ : ByteArray).size = 1 := rfl
      have B1 : Hid (Below w.heap.size w (wr.alloc (.cells #[.int .u8 (48 + (q : Int))] 5))) := Lib.hid (hB.alloc hB.size _)
      clear hq hc1 hE hB
      go_wp2_with fail
      go_roundw
      case rel => exact ⟨m / 10, (⟨#[c1]⟩ : ByteArray) ++ S, by congr 1, by omega, rfl, E1.out, B1.out⟩
      case measure => simp [intOf]; omega
    · have i0 : ¬ (0 : Int) < (m : Int) := by omega
      have E1 : Hid (S.data.toList = decDigits n) := Lib.hid (by
        rw [hE]
        have e : ahead m = [] := by unfold ahead; rw [if_pos (by omega)]
        rw [e, List.nil_append])
      have SZ := Lib.hid sz
      clear hE hB h0
      go_wp2_with fail
      go_ret
      exact ⟨S, rfl, E1.out, SZ.out, HB.out⟩
theorem ba_append0 (a b : ByteArray) : (a ++ b).data.toList = a.data.toList ++ b.data.toList := by simp
theorem below_next0 {w W W2 : World} (h : Below w.heap.size w W) (k : Below W.heap.size W W2) : Below w.heap.size w W2 := h.trans (k.mono h.size)
set_option maxRecDepth 100000 in
set_option maxHeartbeats 3200000 in
theorem dshow_any (w : World) (aT : Option Addr) (l : List (Nat × Nat)) (c : Nat) (h : EdgIs w aT l) (hlen : l.length ≤ 1073741824) :
    Calls Try.prog 22 #[.slice aT l.length c] w fun e w' => ∃ T : ByteArray, e = .returned (.string T) ∧ T.data.toList = showL l ∧ Below w.heap.size w w' := by
  have HE := Lib.hid h
  clear h
  have HU : Hid (∀ x ∈ l, x.1 < 4294967296 ∧ x.2 < 4294967296) := Lib.hid (fun x hx => by
    obtain ⟨k, hk, rfl⟩ := List.getElem_of_mem hx
    obtain ⟨_, _, _, _, _, _, u0, u1⟩ := HE.out k hk
    exact ⟨u0, u1⟩)
  go_enter Try.func22, Try.ntmps22
  go_upto_block 0 with fail
  obtain ⟨S0, hS0⟩ : ∃ S, (⟨#[]⟩ : ByteArray) = S := ⟨_, rfl⟩
  have E0 : Hid (S0.data.toList = showL (l.take 0)) := Lib.hid (by rw [← hS0]; rfl)
  have B0 : Hid (Below w.heap.size w w) := Lib.hid (Below.refl _ _)
  rw [hS0]
  clear hS0
  go_wp2_with fail
  go_loopw [3, 4] (fun vs vi wr => ∃ (k : Nat) (T : ByteArray), vi = .int .i64 (k : Int) ∧ k ≤ l.length ∧ vs = .string T ∧ T.data.toList = showL (l.take k) ∧ Below w.heap.size w wr) (fun _ vi _ => l.length - (intOf vi).toNat)
  case atStart => exact ⟨0, S0, rfl, Nat.zero_le _, rfl, E0.out, B0.out⟩
  case round =>
    obtain ⟨k, T, rfl, hk, rfl, hT, hB⟩ := hrel
    have HT := Lib.hid hT
    have HB := Lib.hid hB
    by_cases hlt : k < l.length
    · obtain ⟨g, o, ha, hgl, hc0, hc1, u0, u1⟩ := HE.out k hlt
      subst ha
      have GT := Lib.hid (showL_take l k hlt)
      have tz : T.size ≤ 23622320128 := by
        have h := showL_len (l.take k) (fun x hx => HU.out x (List.mem_of_mem_take hx))
        rw [← hT, List.length_take] at h
        have h2 : T.data.toList.length = T.size := by simp
        omega
      obtain ⟨f, hf2⟩ : ∃ f, l[k].1 = f := ⟨_, rfl⟩
      obtain ⟨t, ht2⟩ : ∃ t, l[k].2 = t := ⟨_, rfl⟩
      rw [hf2] at hc0 u0 GT
      rw [ht2] at hc1 u1 GT
      have MK : Hid (∀ W, Below w.heap.size w W → W.cell? ⟨g, o + k * 2, none⟩ = some (.int .u32 (f : Int)) ∧ W.cell? ⟨g, o + k * 2 + 1, none⟩ = some (.int .u32 (t : Int)) ∧ Below w.heap.size w W) := Lib.hid (fun W h => ⟨(h.cell (p := ⟨g, o + k * 2, none⟩) hgl).trans hc0, (h.cell (p := ⟨g, o + k * 2 + 1, none⟩) hgl).trans hc1, h⟩)
      have DF := Lib.hid (fun W => digits_any f u0 W)
      have DT := Lib.hid (fun W => digits_any t u1 W)
      have k0 : (k : Int) < (l.length : Int) := by omega
      have z1 : (⟨#[32]⟩ : ByteArray).size = 1 := rfl
      have z2 : (⟨#[10]⟩ : ByteArray).size = 1 := rfl
      have H0 : Below w.heap.size w wr := hB
      have HD : Hid (Below w.heap.size w wr.drew) := Lib.hid hB.drew
      clear hf2 ht2 hc0 hc1 hT hB
      go_upto_region 5 with fail
      go_region_held3 (fun w' => w'.cell? ⟨g, o + k * 2, none⟩ = some (.int .u32 (f : Int)) ∧ w'.cell? ⟨g, o + k * 2 + 1, none⟩ = some (.int .u32 (t : Int)) ∧ Below w.heap.size w w')
        (first
        | (refine MK.out _ ?_; with_reducible exact HD.out)
        | (refine MK.out _ ?_; with_reducible exact h4)
        | (refine MK.out _ ?_; with_reducible exact h2))
        (first
        | (go_at_call_of 46 (Value.int IntKind.u32 (f : Int)); refine (DF.out _).mono ?_; rintro e w2 ⟨SF, rfl, hSF, zF, k2⟩; have HSF := Lib.hid hSF; clear hSF; have h2 := below_next0 HD.out k2; clear k2; have y1 : ¬ 9223372036854775807 < T.size + SF.size := (by omega); have y2 : ¬ 9223372036854775807 < T.size + SF.size + 1 := (by omega))
        | (go_at_call_of 46 (Value.int IntKind.u32 (t : Int)); refine (DT.out _).mono ?_; rintro e w4 ⟨ST, rfl, hST, zT, k4⟩; have HST := Lib.hid hST; clear hST; have h4 := below_next0 h2 k4; clear k4; have y3 : ¬ 9223372036854775807 < T.size + SF.size + 1 + ST.size := (by omega); have y4 : ¬ 9223372036854775807 < T.size + SF.size + 1 + ST.size + 1 := (by omega)))
      all_goals
        have R : Hid ((T ++ SF ++ (⟨#[32]⟩ : ByteArray) ++ ST ++ (⟨#[10]⟩ : ByteArray)).data.toList = showL (l.take (k + 1))) := Lib.hid (by
          rw [GT.out]
          simp only [ba_append0, HT.out, HSF.out, HST.out])
        have H4 := Lib.hid h4
        clear h4 h2
        go_wp2_with fail
        go_roundw
        case rel => exact ⟨k + 1, _, by go_num, by omega, rfl, R.out, H4.out⟩
        case measure => simp [intOf]; omega
    · have E : Hid (T.data.toList = showL l) := Lib.hid (by
        have e : k = l.length := by omega
        rw [e, List.take_length] at hT
        exact hT)
      have k0 : ¬ (k : Int) < (l.length : Int) := by omega
      clear hT hB
      go_wp2_with fail
      go_ret
      exact ⟨T, rfl, E.out, HB.out⟩
end Go.Proofs.Ythaicpbdlhkkkaa.edg
