/- ef: number; the document's value. -/
import Derived.Test.YthaicpbdlhkkkaaEfC
import Derived.Lib.ConvBytes
import Derived.OneCell
import Derived.Lib.IndexBytes
import Derived.Test.YthaicpbdlhkkkaaEfS
namespace Go.Proofs.Ythaicpbdlhkkkaa.ef
open Go.RowKit Go.Proofs.Ythaicpbdlhkkkaa.own Go.Proofs.Ythaicpbdlhkkkaa.bit

theorem bytes_run (s : ByteArray) (w : World) : ∃ wb cap, (convert 9 53 (.string s)).run Try.prog w = .ok (.slice (some ⟨w.heap.size, 0, none⟩) s.size cap) wb ∧ wb.heap.size = w.heap.size + 1 ∧ Below w.heap.size w wb ∧
    ∀ j (hj : j < s.size), wb.cell? ⟨w.heap.size, j, none⟩ = some (.int .u8 s[j].toNat) := by
  refine ⟨Lib.bytesWorld w 5 s, _, Lib.run_convert_string_bytes w _ _ _ s Try.underlying9 Try.underlying53 Try.underlying5, Lib.bytesWorld_size _ _ _, ?_, ?_⟩
  · exact ⟨by simp [Lib.bytesWorld, World.freeze, World.alloc, World.drew, -World.alloc_eq, -World.drew_eq], by simp [Lib.bytesWorld, World.freeze, World.alloc, World.drew, -World.alloc_eq, -World.drew_eq], by simp [Lib.bytesWorld, World.freeze, World.alloc, World.drew, -World.alloc_eq, -World.drew_eq], by rw [Lib.bytesWorld_size]; omega, fun k hk => Lib.bytesWorld_at_old w _ s k hk⟩
  · intro j hj
    rw [Lib.bytesWorld_cell w _ s j hj]
    have : s.data.toList.getD j 0 = s[j] := by
      rw [List.getD_eq_getElem?_getD, Lib.data_getElem? s j hj]; rfl
    rw [this]

theorem val_from : ∀ (l : List Nat) (a c : Nat), (∀ b ∈ l, b < 256) → a < c → l.foldl (fun a b => 256 * a + b) a < c * 256 ^ l.length
  | [], a, c, _, h => by simpa using h
  | b :: l, a, c, hl, h => by
    have hb := hl b (by simp)
    have := val_from l (256 * a + b) (256 * c) (fun d hd => hl d (by simp [hd])) (by omega)
    rw [List.foldl_cons, List.length_cons, Nat.pow_succ]
    calc _ < 256 * c * 256 ^ l.length := this
      _ = c * (256 ^ l.length * 256) := by rw [Nat.mul_comm 256 c, Nat.mul_assoc, Nat.mul_comm 256]
theorem val_lt (l : List Nat) (hl : ∀ b ∈ l, b < 256) : val l < 256 ^ l.length := by
  have := val_from l 0 1 hl (by decide)
  simpa [val] using this
theorem nats_lt (s : ByteArray) : ∀ b ∈ nats s, b < 256 := by
  intro b hb
  obtain ⟨q, hq, rfl⟩ := List.getElem_of_mem hb
  have hs : q < s.size := by rw [nats_length] at hq; exact hq
  rw [nats_at s q hs hq]
  exact s[q].toNat_lt
theorem val_step (s : ByteArray) (k : Nat) (h : k < s.size) : val ((nats s).take (k + 1)) = 256 * val ((nats s).take k) + s[k].toNat := by
  have hk : k < (nats s).length := by rw [nats_length]; exact h
  rw [List.take_succ_eq_append_getElem hk, val_snoc, nats_at s k h hk]
theorem val_small (s : ByteArray) (k : Nat) (h : k ≤ 7) : val ((nats s).take k) < 72057594037927936 := by
  refine Nat.lt_of_lt_of_le (val_lt _ fun b hb => nats_lt s b (List.mem_of_mem_take hb)) ?_
  calc 256 ^ ((nats s).take k).length ≤ 256 ^ 7 := Nat.pow_le_pow_right (by decide) (by rw [List.length_take]; omega)
    _ = 72057594037927936 := by decide

set_option maxRecDepth 100000 in
set_option maxHeartbeats 800000 in
theorem value_any (s : ByteArray) (hs : s.size ≤ 8) (w : World) :
    Calls Try.prog 50 #[.string s] w fun e w' => e = .returned (.int .u64 ((val (nats s) : Nat) : Int)) ∧ w' = w := by
  go_enter Try.func50, Try.ntmps50
  go_wp2_with fail
  go_loop [3, 4] (fun n i => ∃ k v : Nat, k ≤ s.size ∧ i = .int .i64 k ∧ n = .int .u64 v ∧ v = val ((nats s).take k)) (fun _ i => s.size - (intOf i).toNat)
  case atStart => exact ⟨0, 0, Nat.zero_le _, rfl, rfl, rfl⟩
  case round =>
    obtain ⟨k, v, hk, rfl, rfl, hv⟩ := hrel
    by_cases hlt : k < s.size
    · have hv7 : v < 72057594037927936 := by rw [hv]; exact val_small s k (by omega)
      have HS : Hid (256 * v + s[k].toNat = val ((nats s).take (k + 1))) := Lib.hid (by rw [val_step s k hlt, hv])
      have hb : s[k].toNat < 256 := s[k].toNat_lt
      clear hv
      go_wp2
      go_round
      case rel => exact ⟨k + 1, 256 * v + s[k].toNat, by omega, by go_num, by go_num, HS.out⟩
      case measure => simp [intOf]; omega
    · have E : Hid (v = val (nats s)) := Lib.hid (by rw [hv, List.take_of_length_le (by rw [nats_length]; omega)])
      clear hv
      go_wp2
      go_ret
      exact ⟨by rw [E.out]; rfl, rfl⟩

set_option maxRecDepth 100000 in
set_option maxHeartbeats 800000 in
theorem number_any (s : ByteArray) (hs : s.size ≤ 8) (w : World) :
    Calls Try.prog 47 #[.string s] w fun e w' => e = .returned (.int .u64 ((val (nats s) : Nat) : Int)) ∧ Below w.heap.size w w' := by
  obtain ⟨wb, cap, hrun, hwz, hbw, hcells⟩ := bytes_run s w
  have HCB := Lib.hid hcells
  have HB := Lib.hid hbw
  clear hcells hbw hwz
  go_enter Try.func47, Try.ntmps47
  go_wp2_with fail
  clear hrun
  go_loop [3, 9] (fun n i => ∃ k v : Nat, k ≤ s.size ∧ i = .int .i64 k ∧ n = .int .u64 v ∧ v = val ((nats s).take k)) (fun _ i => s.size - (intOf i).toNat)
  case atStart => exact ⟨0, 0, Nat.zero_le _, rfl, rfl, rfl⟩
  case round =>
    obtain ⟨k, v, hk, rfl, rfl, hv⟩ := hrel
    by_cases hlt : k < s.size
    · have hv7 : v < 72057594037927936 := by rw [hv]; exact val_small s k (by omega)
      have HS : Hid (256 * v + s[k].toNat = val ((nats s).take (k + 1))) := Lib.hid (by rw [val_step s k hlt, hv])
      have hb : s[k].toNat < 256 := s[k].toNat_lt
      have hcell := HCB.out k hlt
      clear hv
      have HO : Hid (bits BinOp.or IntKind.u64 ((v : Int) * 256) (s[k].toNat : Int) = ((256 * v + s[k].toNat : Nat) : Int)) := Lib.hid (by
        have h1 := (bits_nat .u64 64 (by decide) wraps_u64_64 (v * 2 ^ 8) s[k].toNat (by omega) (by omega)).2
        have h2 : v * 2 ^ 8 ||| s[k].toNat = 256 * v + s[k].toNat := by
          rw [Nat.mul_comm v, ← Nat.two_pow_add_eq_or_of_lt (i := 8) hb]
        rw [h2] at h1
        rw [← h1]
        congr 1)
      go_wp2
      rw [HO.out]
      refine ⟨⟨k + 1, 256 * v + s[k].toNat, by omega, by go_num, rfl, HS.out⟩, ?_⟩
      simp [intOf]
      omega
    · have E : Hid (v = val (nats s)) := Lib.hid (by rw [hv, List.take_of_length_le (by rw [nats_length]; omega)])
      clear hv
      go_wp2
      go_ret
      exact ⟨by rw [E.out]; rfl, HB.out⟩
end Go.Proofs.Ythaicpbdlhkkkaa.ef
