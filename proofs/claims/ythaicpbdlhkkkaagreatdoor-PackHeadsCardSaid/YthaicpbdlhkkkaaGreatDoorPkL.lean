/- pack: the document's value of bytes. -/
import Derived.Test.YthaicpbdlhkkkaaGreatDoorPkK
import Derived.Test.YthaicpbdlhkkkaaGreatDoorBitR2
namespace Go.Proofs.YthaicpbdlhkkkaaGreatDoor.pk
open Go.RowKit Go.Proofs.YthaicpbdlhkkkaaGreatDoor.own Go.Proofs.YthaicpbdlhkkkaaGreatDoor.bit Go.Proofs.YthaicpbdlhkkkaaGreatDoor.ef

theorem val_from : ∀ (l : List Nat) (a c : Nat), (∀ b ∈ l, b < 256) → a < c → l.foldl (fun a b => 256 * a + b) a < c * 256 ^ l.length
  | [], a, c, _, h => by simpa using h
  | b :: l, a, c, hl, h => by
    have hb := hl b (by simp)
    have := val_from l (256 * a + b) (256 * c) (fun d hd => hl d (by simp [hd])) (by omega)
    rw [List.foldl_cons, List.length_cons, Nat.pow_succ]
    calc _ < 256 * c * 256 ^ l.length := this
      _ = c * (256 ^ l.length * 256) := by rw [Nat.mul_comm 256 c, Nat.mul_assoc, Nat.mul_comm 256]
theorem val_lt (l : List Nat) (hl : ∀ b ∈ l, b < 256) : val l < 256 ^ l.length := by
  have := val_from l 0 1 hl (by decide)
  simpa [val] using this
theorem nats_lt (s : ByteArray) : ∀ b ∈ nats s, b < 256 := by
  intro b hb
  obtain ⟨q, hq, rfl⟩ := List.getElem_of_mem hb
  have hs : q < s.size := by rw [nats_length] at hq; exact hq
  rw [nats_at s q hs hq]
  exact s[q].toNat_lt
theorem val_step (s : ByteArray) (k : Nat) (h : k < s.size) : val ((nats s).take (k + 1)) = 256 * val ((nats s).take k) + s[k].toNat := by
  have hk : k < (nats s).length := by rw [nats_length]; exact h
  rw [List.take_succ_eq_append_getElem hk, val_snoc, nats_at s k h hk]

/-- what value tells of bytes: their number, or -1 if it is too great -/
def ValR (l : List Nat) (r : Int) : Prop := r = (val l : Nat) ∨ (r = -1 ∧ 134217728 < val l)
theorem val_grows (l : List Nat) : ∀ k, val (l.take k) ≤ val l := by
  intro k
  obtain ⟨c, hc⟩ : ∃ c, l.take k = c := ⟨_, rfl⟩
  have h : l = c ++ l.drop k := by rw [← hc, List.take_append_drop]
  have g : ∀ (r a : List Nat), val a ≤ val (a ++ r) := by
    intro r
    induction r with
    | nil => intro a; simp
    | cons b r ih =>
      intro a
      have := ih (a ++ [b])
      rw [val_snoc, List.append_assoc] at this
      simp at this ⊢
      omega
  rw [hc]
  have := g (l.drop k) c
  rwa [← h] at this

/-- value's answer -/
noncomputable def valD (l : List Nat) : Int := if ∃ k, k < l.length ∧ 1099511627776 < val (l.take k) then -1 else (val l : Nat)
theorem valD_ok (l : List Nat) : ValR l (valD l) := by
  unfold valD
  by_cases h : ∃ k, k < l.length ∧ 1099511627776 < val (l.take k)
  · rw [if_pos h]
    obtain ⟨k, _, h⟩ := h
    exact .inr ⟨rfl, by have := val_grows l k; omega⟩
  · rw [if_neg h]
    exact .inl rfl

set_option maxRecDepth 100000 in
set_option maxHeartbeats 800000 in
theorem value_any (s : ByteArray) (hs : s.size ≤ 1073741824) (w : World) :
    Calls Tryz.prog 25 #[.string s] w fun e w' => e = .returned (.int .i64 (valD (nats s))) ∧ w = w' := by
  go_enter Tryz.func25, Tryz.ntmps25
  go_wp2_with fail
  go_loop [3, 4] (fun n i => ∃ k v : Nat, k ≤ s.size ∧ i = .int .i64 k ∧ n = .int .i64 v ∧ v = val ((nats s).take k) ∧ v ≤ 281474976710911 ∧ ∀ j < k, val ((nats s).take j) ≤ 1099511627776) (fun _ i => s.size - (intOf i).toNat)
  case atStart => exact ⟨0, 0, Nat.zero_le _, rfl, rfl, rfl, by decide, fun j hj => absurd hj (Nat.not_lt_zero j)⟩
  case round =>
    obtain ⟨k, v, hk, rfl, rfl, hv, hv7, hA⟩ := hrel
    have HA := Lib.hid hA
    clear hA
    by_cases hlt : k < s.size
    · have HS : Hid (256 * v + s[k].toNat = val ((nats s).take (k + 1))) := Lib.hid (by rw [val_step s k hlt, hv])
      have hb : s[k].toNat < 256 := s[k].toNat_lt
      by_cases hbig : 1099511627776 < v
      · have HB : Hid (valD (nats s) = -1) := Lib.hid (by unfold valD; rw [if_pos ⟨k, by rw [nats_length]; exact hlt, by omega⟩])
        clear hv
        go_wp2
        go_ret
        exact ⟨by rw [HB.out]; rfl, rfl⟩
      · have HN : Hid (∀ j < k + 1, val ((nats s).take j) ≤ 1099511627776) := Lib.hid (fun j hj => by
          by_cases h : j = k
          · subst h; omega
          · exact HA.out j (by omega))
        clear hv
        go_wp2
        go_round
        case rel => exact ⟨k + 1, 256 * v + s[k].toNat, by omega, by go_num, by go_num, HS.out, by omega, HN.out⟩
        case measure => simp [intOf]; omega
    · have E : Hid (valD (nats s) = v) := Lib.hid (by
        unfold valD
        rw [if_neg (fun ⟨j, hj, h⟩ => by have := HA.out j (by rw [nats_length] at hj; omega); omega), hv, List.take_of_length_le (by rw [nats_length]; omega)])
      clear hv
      go_wp2
      go_ret
      exact ⟨by rw [E.out]; rfl, rfl⟩
end Go.Proofs.YthaicpbdlhkkkaaGreatDoor.pk
