/- pack: the document's number. -/
import Derived.Test.YthaicpbdlhkkkaaGreatDoorPkF
namespace Go.Proofs.YthaicpbdlhkkkaaGreatDoor.pk
open Go.RowKit Go.Proofs.YthaicpbdlhkkkaaGreatDoor.own Go.Proofs.YthaicpbdlhkkkaaGreatDoor.bit

set_option maxRecDepth 100000 in
theorem number_any (n k : Nat) (hk : k ≤ 8) (hn : n < 9223372036854775808) (w : World) :
    Calls Tryz.prog 18 #[.int .i64 (n : Int), .int .i64 (k : Int)] w fun e w' => e = .returned (.string (txt (packN (ofN (8 * k) n)))) ∧ Below w.heap.size w w' := by
  have OF := Lib.hid (fun W => Of_any (8 * k) n (by omega) (by omega) W)
  have TX := Lib.hid (fun W base v l hl h => Text_any W base v l hl h)
  have u1 : IntKind.u64.wrap (n : Int) = (n : Int) := wraps_u64_64 _ (by omega) (by omega)
  have u2 : IntKind.i64.wrap (8 * (k : Int)) = ((8 * k : Nat) : Int) := by rw [IntWalk.i64_in _ (by omega)]; omega
  have HK := Lib.hid hk
  clear hk hn
  go_enter Tryz.func18, Tryz.ntmps18
  go_wp2_with fail
  refine (OF.out _).mono ?_
  rintro e w1 ⟨v, rfl, own1, k1⟩
  go_wp2_with fail
  refine (TX.out _ _ _ _ (by rw [ofN_length]; have := HK.out; omega) own1).mono ?_
  rintro e w2 ⟨rfl, k2⟩
  go_wp2_with fail
  go_ret
  exact ⟨rfl, below_more k1 k2⟩
end Go.Proofs.YthaicpbdlhkkkaaGreatDoor.pk
