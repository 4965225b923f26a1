/- Calls that the run of TriNone makes, each at its state: what they come to. -/
import Derived.Test.YtpcggglhnjeilaaGreatDoorEvTriNoneS9
namespace Go.Proofs.YtpcggglhnjeilaaGreatDoor.ev
open Go Go.RowKit
set_option maxRecDepth 100000

def triNoneSum18 : Sum :=
  { nx := 4620
    args := [(vp 4619 0)]
    pre := [(1008, (.row 11 (ty (ty (ty (tq v0) (vb 0) te) v0 (ty (tq (vj 0)) (vj 1) te)) (vj 0) (ty (ty (tq (.bool false)) (vj 200) te) (vj 0) (ty (tq (vj 0)) (.map (some 1007)) te))) (.tuple #[]) 146 none true)),
  (1012, (.row 11 (ty (ty (ty (tq v0) (vl 3376 0 0 2) te) (vl 2398 0 0 0) (ty (tq (vj 0)) v0 te)) (vj 2) (ty (ty (tq (.map none)) (.map (some 2406)) te) (.map (some 2396)) (ty (tq (.map (some 1011))) (.map none) te))) (.tuple #[]) 233 none true)),
  (1013, (.map [{ key := (vj 2), val := (vp 2400 0), born := 0 }, { key := (vj 3), val := (vp 3369 0), born := 1 }] 2)),
  (1014, (.row 12 (ty (ty (ty (tq (vj 0)) (.map (some 1013)) (tq (.bool false))) (vp 1010 0) (ty (tq (vj 0)) (vj 41) te)) (vp 1008 0) (ty (ty (tq (vj 0)) (vj 2) te) (vp 1012 0) (ty (tq (vj 0)) (vj 2) te))) (.tuple #[]) 157 none true)),
  (2396, (.map [] 2)),
  (2400, (.row 3 (ty (tq (.bool true)) (vs [119,116,108,49,0,0,0,3,0,0,0,6,7,3,3,3,0,0,0,64,0,0,0,0,0,0,0,37,125,199,213,63,32,0,0,0,4,0,0,0,0,0,0,0,38,16,208,165,0,0,0,0,0,0,0,0,0,0,0,0,0,0,0,0,0,0,0,0,0,0,0,0,0,0,0,0,0,0,0,0,0,0,0,0,0,0,0,0,0,0,0,0,0,0,0,0,0,0,0,0,0,0,0,0,0,0,0,0,0,0,0,0,0,0,0,0,0,0,0,0,0,0,0,0,0,0,0,0,0,0,0,0,0,0,0,0,0,0,0,0,0,0,0,0,0,0,0,0,0,0,0,0,0,0,0,0,0,0,0,0,0,0,0,0,0,0,0,0,0,0,0,0,0,0,0,0,0,0,0,0,0,0,0,0,0,0,0,0,0,0,0,0,0,0,0,0,0,0,0,0,0,0,0,0,0,0,0,0,0,0,0,0,0,0,0,0,0,0,0,0,0,0,0,0,0,0,0,0,0,0,0,0,0,0,0,0,0,0,0,0,0,0,0,0,0,0,0,0,0,0,0,0,0,0,0,0,0,0,0,0,0,0,0,0,0,0,0,0,0,0,0,0,0,0,0,0,0,0,0,0,0,0,0,0,0,0,0,0,0,0,0,0,0,0,0,0,0,0,0,0,0,0,0,0,0,0,0,0,0,0,0,0,0,0,0,0,0,0,0,0,0,0,0,0,0,0,0,0,0,0,0,0,0,0,0,0,0,0,0,0,0,0,0,0,0,0,0,0,0,0,0,0,0,0,0,0,0,0,0,0,0,0,0,0,0,0,0,0,0,0,0,0,0,0,0,0,0,0,0,0,0,0,0,0,0,0,0,0,0,0,0,0,0,0,0,0,0,0,0,0,0,0,0,0,0,0,0,0,0,0,0,0,0,0,0,0,0,0,0,0,0,0,0,0,0,0,0,0,0,0,0,0,0,0,0,0,0,0,0,0,0,0,0,0,0,0,0,0,0,0,0,0,0,0,0,0,0,0,0,0,0,0,0,0,0,0,0,0,0,0,0,0,0,0,0,0,0,0,0,0,0,0,0,0,0,0,0,0,0,0,0,0,0,0,0,0,0,0,0,0,0,0,0,0,0,0,0,52,119,66,202,7]) (tq (vj 0))) (.tuple #[]) 238 none true)),
  (2402, (.row 5 (ty (ty (tq (vj 52)) (vj 2) te) (vp 1014 0) (ty (tq (vi .u32 2000865799)) (vj 1) te)) (.tuple #[]) 270 none true)),
  (2406, (.map [{ key := (vj 3), val := (vj 1), born := 5 }, { key := (vj 2), val := (vj 1), born := 40 }] 41)),
  (2474, (.row 5 (ty (ty (tq (vj 8)) (vi .u64 38) te) (vj 4) (ty (tq (.iface 132 (.agg #[(.iface 193 (vp 2402 0)), (vj 33), (vj 19)]))) (vj 3) te)) (.tuple #[]) 226 none true)),
  (2475, (.row 10 (ty (ty (ty (tq (vj 37)) (vj 3) te) (vj 6) (ty (tq (vp 2474 0)) (vj 3) te)) (vj 3) (ty (ty (tq (.iface 193 (vp 2402 0))) (vj 3) te) (vj 7) (tq (vj 64)))) (.tuple #[]) 134 none true)),
  (3376, (.row 2 (ty (tq (vj 2)) (vj 3) te) (.tuple #[]) 3 (some 1) true)),
  (4619, (.row 6 (ty (ty (tq (vp 2475 0)) (.bool false) (tq (.bool false))) (vj 0) (ty (tq (.bool false)) (vi .u64 0) te)) (.tuple #[]) 115 none true))]
    v := (vj 0)
    nx' := 7434
    post := [(1014, (.row 12 (ty (ty (ty (tq (vj 0)) (.map (some 1013)) (tq (.bool false))) (vp 1010 0) (ty (tq (vj 0)) (vj 104) te)) (vp 1008 0) (ty (ty (tq (vj 0)) (vj 2) te) (vp 1012 0) (ty (tq (vj 0)) (vj 2) te))) (.tuple #[]) 157 none true)),
  (2406, (.map [{ key := (vj 3), val := (vj 1), born := 5 }, { key := (vj 2), val := (vj 1), born := 103 }] 104)),
  (4619, (.row 6 (ty (ty (tq (vp 2475 0)) (.bool true) (tq (.bool false))) (vj 1) (ty (tq (.bool false)) (vi .u64 1) te)) (.tuple #[]) 115 none true))] }
theorem triNoneSum18_run (e0 e1 : TypeId) : triNoneSum18.run Tryz.prog triNoneTab18 1000000 59 triNoneLay [e0, e1] = (true, some [e0, e1]) := by kernel_rfl
noncomputable def triNoneTab19 : Tab := tabS triNoneTab18 59 (triNoneSum18.ans triNoneLay)
theorem triNoneTab19_ok : TabOk Tryz.prog triNoneTab19 := tabS_ok triNoneTab18_ok (Sum.ok triNoneTab18_ok triNone_follows (two_types triNoneSum18_run _ _))
end Go.Proofs.YtpcggglhnjeilaaGreatDoor.ev
