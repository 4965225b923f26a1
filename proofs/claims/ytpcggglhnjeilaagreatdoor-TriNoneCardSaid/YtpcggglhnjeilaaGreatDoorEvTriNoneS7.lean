/- Calls that the run of TriNone makes, each at its state: what they come to. -/
import Derived.Test.YtpcggglhnjeilaaGreatDoorEvTriNoneS6
namespace Go.Proofs.YtpcggglhnjeilaaGreatDoor.ev
open Go Go.RowKit
set_option maxRecDepth 100000

def triNoneSum12 : Sum :=
  { nx := 2491
    args := [(vp 1014 0), (vc 2476 0 3 3), (.agg #[(vj 0), (vj 0), (vj 2), (vj 1), (vj 64)])]
    pre := [(1008, (.row 11 (ty (ty (ty (tq v0) (vb 0) te) v0 (ty (tq (vj 0)) (vj 1) te)) (vj 0) (ty (ty (tq (.bool false)) (vj 200) te) (vj 0) (ty (tq (vj 0)) (.map (some 1007)) te))) (.tuple #[]) 146 none true)),
  (1009, (.row 200 (tm te (tq (vb 1))) (vb 0) 241 none true)),
  (1010, (.row 4 (ty (ty (tq (.bool false)) (vc 1009 0 200 200) te) (vj 2) (tq v0)) (.tuple #[]) 149 none true)),
  (1011, (.map [] 0)),
  (1012, (.row 11 (ty (ty (ty (tq v0) (vl 2408 0 0 1) te) (vl 2398 0 0 0) (ty (tq (vj 0)) v0 te)) (vj 2) (ty (ty (tq (.map none)) (.map (some 2406)) te) (.map (some 2396)) (ty (tq (.map (some 1011))) (.map none) te))) (.tuple #[]) 233 none true)),
  (1013, (.map [{ key := (vj 2), val := (vp 2400 0), born := 0 }] 1)),
  (1014, (.row 12 (ty (ty (ty (tq (vj 0)) (.map (some 1013)) (tq (.bool false))) (vp 1010 0) (ty (tq (vj 0)) (vj 3) te)) (vp 1008 0) (ty (ty (tq (vj 0)) (vj 2) te) (vp 1012 0) (ty (tq (vj 0)) (vj 1) te))) (.tuple #[]) 157 none true)),
  (2396, (.map [] 1)),
  (2398, (.row 1 (tq (vj 0)) (.tuple #[]) 3 (some 1) true)),
  (2406, (.map [{ key := (vj 2), val := (vj 1), born := 2 }] 3)),
  (2408, (.row 1 (tq (vj 2)) (.tuple #[]) 3 (some 1) true)),
  (2476, (.row 3 (ty (tq (vl 2488 0 0 2)) (vl 2486 0 0 2) (tq (vl 2484 0 0 2))) v0 52 none true)),
  (2484, (.row 2 (ty (tq (vi .u32 1)) (vi .u32 0) te) (.tuple #[]) 40 (some 1) true)),
  (2486, (.row 2 (ty (tq (vi .u32 2)) (vi .u32 1) te) (.tuple #[]) 40 (some 1) true)),
  (2488, (.row 2 (ty (tq (vi .u32 2)) (vi .u32 0) te) (.tuple #[]) 40 (some 1) true))]
    v := (.tuple #[(vp 3443 0), (.bool true)])
    nx' := 3444
    post := [(1009, (.row 200 (tm (tm (tq (vb 1)) te) (tq (vb 1))) (vb 0) 241 none true)),
  (1012, (.row 11 (ty (ty (ty (tq v0) (vl 3376 0 0 2) te) (vl 2398 0 0 0) (ty (tq (vj 0)) v0 te)) (vj 2) (ty (ty (tq (.map none)) (.map (some 2406)) te) (.map (some 2396)) (ty (tq (.map (some 1011))) (.map none) te))) (.tuple #[]) 233 none true)),
  (1013, (.map [{ key := (vj 2), val := (vp 2400 0), born := 0 }, { key := (vj 3), val := (vp 3369 0), born := 1 }] 2)),
  (1014, (.row 12 (ty (ty (ty (tq (vj 0)) (.map (some 1013)) (tq (.bool false))) (vp 1010 0) (ty (tq (vj 0)) (vj 6) te)) (vp 1008 0) (ty (ty (tq (vj 0)) (vj 2) te) (vp 1012 0) (ty (tq (vj 0)) (vj 2) te))) (.tuple #[]) 157 none true)),
  (2396, (.map [] 2)),
  (2406, (.map [{ key := (vj 2), val := (vj 1), born := 2 }, { key := (vj 3), val := (vj 1), born := 5 }] 6)),
  (2408, .dead),
  (3443, (.row 10 (ty (ty (ty (tq (vj 32)) (vj 0) te) (vj 6) (ty (tq (vp 3442 0)) (vj 1) te)) (vj 3) (ty (ty (tq (.iface 193 (vp 3371 0))) (vj 2) te) (vj 0) (tq (vj 64)))) (.tuple #[]) 134 none true)),
  (3442, (.row 5 (ty (ty (tq (vj 8)) (vi .u64 33) te) (vj 4) (ty (tq (.iface 132 (.agg #[(.iface 193 (vp 3371 0)), (vj 32), (vj 19)]))) (vj 3) te)) (.tuple #[]) 226 none true)),
  (3371, (.row 5 (ty (ty (tq (vj 51)) (vj 3) te) (vp 1014 0) (ty (tq (vi .u32 658160245)) (vj 1) te)) (.tuple #[]) 270 none true)),
  (3376, (.row 2 (ty (tq (vj 3)) (vj 2) te) (.tuple #[]) 3 (some 1) true)),
  (3369, (.row 3 (ty (tq (.bool true)) (vs [119,116,108,49,0,0,0,3,0,0,0,6,0,0,2,1,0,0,0,64,0,0,0,0,0,0,0,32,105,221,38,137,0,0,0,4,0,0,0,0,0,0,0,33,10,0,169,0,0,0,0,0,0,0,0,0,0,0,0,0,0,0,0,0,0,0,0,0,0,0,0,0,0,0,0,0,0,0,0,0,0,0,0,0,0,0,0,0,0,0,0,0,0,0,0,0,0,0,0,0,0,0,0,0,0,0,0,0,0,0,0,0,0,0,0,0,0,0,0,0,0,0,0,0,0,0,0,0,0,0,0,0,0,0,0,0,0,0,0,0,0,0,0,0,0,0,0,0,0,0,0,0,0,0,0,0,0,0,0,0,0,0,0,0,0,0,0,0,0,0,0,0,0,0,0,0,0,0,0,0,0,0,0,0,0,0,0,0,0,0,0,0,0,0,0,0,0,0,0,0,0,0,0,0,0,0,0,0,0,0,0,0,0,0,0,0,0,0,0,0,0,0,0,0,0,0,0,0,0,0,0,0,0,0,0,0,0,0,0,0,0,0,0,0,0,0,0,0,0,0,0,0,0,0,0,0,0,0,0,0,0,0,0,0,0,0,0,0,0,0,0,0,0,0,0,0,0,0,0,0,0,0,0,0,0,0,0,0,0,0,0,0,0,0,0,0,0,0,0,0,0,0,0,0,0,0,0,0,0,0,0,0,0,0,0,0,0,0,0,0,0,0,0,0,0,0,0,0,0,0,0,0,0,0,0,0,0,0,0,0,0,0,0,0,0,0,0,0,0,0,0,0,0,0,0,0,0,0,0,0,0,0,0,0,0,0,0,0,0,0,0,0,0,0,0,0,0,0,0,0,0,0,0,0,0,0,0,0,0,0,0,0,0,0,0,0,0,0,0,0,0,0,0,0,0,0,0,0,0,0,0,0,0,0,0,0,0,0,0,0,0,0,0,0,0,0,0,0,0,0,0,0,0,0,0,0,0,0,0,0,0,0,0,0,0,0,0,0,0,0,0,0,0,0,0,0,0,0,0,0,0,0,0,0,0,0,0,0,0,0,0,0,0,0,0,0,0,0,0,0,0,0,0,0,0,0,0,0,0,0,0,0,0,0,0,0,0,0,0,0,0,0,0,0,0,0,0,51,39,58,186,117]) (tq (vj 0))) (.tuple #[]) 238 none true))] }
theorem triNoneSum12_run (e0 e1 : TypeId) : triNoneSum12.run Tryz.prog triNoneTab12 1000000 50 triNoneLay [e0, e1] = (true, some [e0, e1]) := by kernel_rfl
noncomputable def triNoneTab13 : Tab := tabS triNoneTab12 50 (triNoneSum12.ans triNoneLay)
theorem triNoneTab13_ok : TabOk Tryz.prog triNoneTab13 := tabS_ok triNoneTab12_ok (Sum.ok triNoneTab12_ok triNone_follows (two_types triNoneSum12_run _ _))
def triNoneSum13 : Sum :=
  { nx := 3468
    args := [(.agg #[(vp 2475 0), (.map (some 3466))]), (vj 0)]
    pre := [(1008, (.row 11 (ty (ty (ty (tq v0) (vb 0) te) v0 (ty (tq (vj 0)) (vj 1) te)) (vj 0) (ty (ty (tq (.bool false)) (vj 200) te) (vj 0) (ty (tq (vj 0)) (.map (some 1007)) te))) (.tuple #[]) 146 none true)),
  (1012, (.row 11 (ty (ty (ty (tq v0) (vl 3376 0 0 2) te) (vl 2398 0 0 0) (ty (tq (vj 0)) v0 te)) (vj 2) (ty (ty (tq (.map none)) (.map (some 2406)) te) (.map (some 2396)) (ty (tq (.map (some 1011))) (.map none) te))) (.tuple #[]) 233 none true)),
  (1013, (.map [{ key := (vj 2), val := (vp 2400 0), born := 0 }, { key := (vj 3), val := (vp 3369 0), born := 1 }] 2)),
  (1014, (.row 12 (ty (ty (ty (tq (vj 0)) (.map (some 1013)) (tq (.bool false))) (vp 1010 0) (ty (tq (vj 0)) (vj 6) te)) (vp 1008 0) (ty (ty (tq (vj 0)) (vj 2) te) (vp 1012 0) (ty (tq (vj 0)) (vj 2) te))) (.tuple #[]) 157 none true)),
  (2396, (.map [] 2)),
  (2400, (.row 3 (ty (tq (.bool true)) (vs [119,116,108,49,0,0,0,3,0,0,0,6,7,3,3,3,0,0,0,64,0,0,0,0,0,0,0,37,125,199,213,63,32,0,0,0,4,0,0,0,0,0,0,0,38,16,208,165,0,0,0,0,0,0,0,0,0,0,0,0,0,0,0,0,0,0,0,0,0,0,0,0,0,0,0,0,0,0,0,0,0,0,0,0,0,0,0,0,0,0,0,0,0,0,0,0,0,0,0,0,0,0,0,0,0,0,0,0,0,0,0,0,0,0,0,0,0,0,0,0,0,0,0,0,0,0,0,0,0,0,0,0,0,0,0,0,0,0,0,0,0,0,0,0,0,0,0,0,0,0,0,0,0,0,0,0,0,0,0,0,0,0,0,0,0,0,0,0,0,0,0,0,0,0,0,0,0,0,0,0,0,0,0,0,0,0,0,0,0,0,0,0,0,0,0,0,0,0,0,0,0,0,0,0,0,0,0,0,0,0,0,0,0,0,0,0,0,0,0,0,0,0,0,0,0,0,0,0,0,0,0,0,0,0,0,0,0,0,0,0,0,0,0,0,0,0,0,0,0,0,0,0,0,0,0,0,0,0,0,0,0,0,0,0,0,0,0,0,0,0,0,0,0,0,0,0,0,0,0,0,0,0,0,0,0,0,0,0,0,0,0,0,0,0,0,0,0,0,0,0,0,0,0,0,0,0,0,0,0,0,0,0,0,0,0,0,0,0,0,0,0,0,0,0,0,0,0,0,0,0,0,0,0,0,0,0,0,0,0,0,0,0,0,0,0,0,0,0,0,0,0,0,0,0,0,0,0,0,0,0,0,0,0,0,0,0,0,0,0,0,0,0,0,0,0,0,0,0,0,0,0,0,0,0,0,0,0,0,0,0,0,0,0,0,0,0,0,0,0,0,0,0,0,0,0,0,0,0,0,0,0,0,0,0,0,0,0,0,0,0,0,0,0,0,0,0,0,0,0,0,0,0,0,0,0,0,0,0,0,0,0,0,0,0,0,0,0,0,0,0,0,0,0,0,0,0,0,0,0,0,0,0,0,0,0,0,0,0,0,0,0,0,0,0,0,0,0,0,0,0,0,0,0,0,0,0,0,0,0,0,0,0,0,0,0,0,0,0,0,0,0,0,0,0,0,0,0,52,119,66,202,7]) (tq (vj 0))) (.tuple #[]) 238 none true)),
  (2402, (.row 5 (ty (ty (tq (vj 52)) (vj 2) te) (vp 1014 0) (ty (tq (vi .u32 2000865799)) (vj 1) te)) (.tuple #[]) 270 none true)),
  (2406, (.map [{ key := (vj 2), val := (vj 1), born := 2 }, { key := (vj 3), val := (vj 1), born := 5 }] 6)),
  (2474, (.row 5 (ty (ty (tq (vj 8)) (vi .u64 38) te) (vj 4) (ty (tq (.iface 132 (.agg #[(.iface 193 (vp 2402 0)), (vj 33), (vj 19)]))) (vj 3) te)) (.tuple #[]) 226 none true)),
  (2475, (.row 10 (ty (ty (ty (tq (vj 37)) (vj 3) te) (vj 6) (ty (tq (vp 2474 0)) (vj 3) te)) (vj 3) (ty (ty (tq (.iface 193 (vp 2402 0))) (vj 3) te) (vj 7) (tq (vj 64)))) (.tuple #[]) 134 none true)),
  (3376, (.row 2 (ty (tq (vj 3)) (vj 2) te) (.tuple #[]) 3 (some 1) true)),
  (3466, (.map [] 0))]
    v := (.tuple #[(vl 4196 0 0 2), (vj 0)])
    nx' := 4197
    post := [(1014, (.row 12 (ty (ty (ty (tq (vj 0)) (.map (some 1013)) (tq (.bool false))) (vp 1010 0) (ty (tq (vj 0)) (vj 34) te)) (vp 1008 0) (ty (ty (tq (vj 0)) (vj 2) te) (vp 1012 0) (ty (tq (vj 0)) (vj 2) te))) (.tuple #[]) 157 none true)),
  (2406, (.map [{ key := (vj 3), val := (vj 1), born := 5 }, { key := (vj 2), val := (vj 1), born := 33 }] 34)),
  (3376, (.row 2 (ty (tq (vj 2)) (vj 3) te) (.tuple #[]) 3 (some 1) true)),
  (3466, (.map [{ key := (vj 0), val := (vj 2), born := 0 }, { key := (vj 1), val := (vj 2), born := 1 }, { key := (vj 2), val := (vj 2), born := 2 }] 3)),
  (4196, (.row 2 (ty (tq (vi .u32 2)) (vi .u32 1) te) (.tuple #[]) 40 (some 1) true))] }
theorem triNoneSum13_run (e0 e1 : TypeId) : triNoneSum13.run Tryz.prog triNoneTab13 1000000 110 triNoneLay [e0, e1] = (true, some [e0, e1]) := by kernel_rfl
noncomputable def triNoneTab14 : Tab := tabS triNoneTab13 110 (triNoneSum13.ans triNoneLay)
theorem triNoneTab14_ok : TabOk Tryz.prog triNoneTab14 := tabS_ok triNoneTab13_ok (Sum.ok triNoneTab13_ok triNone_follows (two_types triNoneSum13_run _ _))
end Go.Proofs.YtpcggglhnjeilaaGreatDoor.ev
