/- Calls that the run of TriNone makes, each at its state: what they come to. -/
import Derived.Test.YtpcggglhnjeilaaGreatDoorEvTriNoneS1
namespace Go.Proofs.YtpcggglhnjeilaaGreatDoor.ev
open Go Go.RowKit
set_option maxRecDepth 100000

def triNoneSum2 : Sum :=
  { nx := 3189
    args := [(vc 3165 0 4 4), (.agg #[(vj 0), (vj 0), (vj 2), (vj 1), (vj 64)])]
    pre := [(3165, (.row 4 (ty (ty (tq (vl 3181 0 0 2)) (vl 3183 0 0 3) te) (vl 3177 0 0 2) (tq (vl 3185 0 0 3))) v0 52 none true)),
  (3177, (.row 2 (ty (tq (vi .u32 2)) (vi .u32 1) te) (.tuple #[]) 40 (some 1) true)),
  (3181, (.row 2 (ty (tq (vi .u32 2)) (vi .u32 1) te) (.tuple #[]) 40 (some 1) true)),
  (3183, (.row 3 (ty (tq (vi .u32 2)) (vi .u32 0) (tq (vi .u32 3))) (.tuple #[]) 40 (some 1) true)),
  (3185, (.row 3 (ty (tq (vi .u32 1)) (vi .u32 0) (tq (vi .u32 3))) (.tuple #[]) 40 (some 1) true))]
    v := (.tuple #[(vs [119,116,108,49,0,0,0,4,0,0,0,10,0,0,2,1,0,0,0,64,0,0,0,0,0,0,0,54,105,200,157,17,18,218,36,0,0,0,5,0,0,0,0,0,0,0,55,8,172,164,160,0,0,0,0]), (vj 0)])
    nx' := 4392
    post := [] }
theorem triNoneSum2_run (e0 e1 : TypeId) : triNoneSum2.run Tryz.prog triNoneTab2 1000000 23 triNoneLay [e0, e1] = (true, some [e0, e1]) := by kernel_rfl
noncomputable def triNoneTab3 : Tab := tabS triNoneTab2 23 (triNoneSum2.ans triNoneLay)
theorem triNoneTab3_ok : TabOk Tryz.prog triNoneTab3 := tabS_ok triNoneTab2_ok (Sum.ok triNoneTab2_ok triNone_follows (two_types triNoneSum2_run _ _))
def triNoneSum3 : Sum :=
  { nx := 1005
    args := [(vc 1004 0 4 4), (vj 2), (vj 0)]
    pre := [(1000, (.row 2 (ty (tq (vi .u32 2)) (vi .u32 1) te) (.tuple #[]) 40 none true)),
  (1001, (.row 3 (ty (tq (vi .u32 2)) (vi .u32 0) (tq (vi .u32 3))) (.tuple #[]) 40 none true)),
  (1002, (.row 3 (ty (tq (vi .u32 1)) (vi .u32 0) (tq (vi .u32 3))) (.tuple #[]) 40 none true)),
  (1003, (.row 2 (ty (tq (vi .u32 2)) (vi .u32 1) te) (.tuple #[]) 40 none true)),
  (1004, (.row 4 (ty (ty (tq (vc 1003 0 2 2)) (vc 1001 0 3 3) te) (vc 1000 0 2 2) (tq (vc 1002 0 3 3))) (.tuple #[]) 52 none true))]
    v := (.tuple #[(.agg #[(vp 1009 0), (vp 1015 0), (vp 3164 0), (vp 4498 0), (vj 196)]), (.bool true)])
    nx' := 4507
    post := [(1009, (.row 11 (ty (ty (ty (tq v0) (vb 0) te) v0 (ty (tq (vj 0)) (vj 1) te)) (vj 0) (ty (ty (tq (.bool false)) (vj 200) te) (vj 0) (ty (tq (vj 0)) (.map (some 1008)) te))) (.tuple #[]) 146 none true)),
  (1008, (.map [] 0)),
  (1015, (.row 12 (ty (ty (ty (tq (vj 0)) (.map (some 1014)) (tq (.bool false))) (vp 1011 0) (ty (tq (vj 0)) (vj 6) te)) (vp 1009 0) (ty (ty (tq (vj 0)) (vj 3) te) (vp 1013 0) (ty (tq (vj 0)) (vj 2) te))) (.tuple #[]) 157 none true)),
  (1014, (.map [{ key := (vj 2), val := (vp 3089 0), born := 0 }, { key := (vj 3), val := (vp 4424 0), born := 1 }] 2)),
  (3089, (.row 3 (ty (tq (.bool true)) (vs [119,116,108,49,0,0,0,4,0,0,0,10,7,3,3,3,0,0,0,64,0,0,0,0,0,0,0,56,125,194,117,80,158,74,99,0,0,0,5,0,0,0,0,0,0,0,57,19,0,164,80,0,0,0,0,0,0,0,0,0,0,0,0,0,0,0,0,0,0,0,0,0,0,0,0,0,0,0,0,0,0,0,0,0,0,0,0,0,0,0,0,0,0,0,0,0,0,0,0,0,0,0,0,0,0,0,0,0,0,0,0,0,0,0,0,0,0,0,0,0,0,0,0,0,0,0,0,0,0,0,0,0,0,0,0,0,0,0,0,0,0,0,0,0,0,0,0,0,0,0,0,0,0,0,0,0,0,0,0,0,0,0,0,0,0,0,0,0,0,0,0,0,0,0,0,0,0,0,0,0,0,0,0,0,0,0,0,0,0,0,0,0,0,0,0,0,0,0,0,0,0,0,0,0,0,0,0,0,0,0,0,0,0,0,0,0,0,0,0,0,0,0,0,0,0,0,0,0,0,0,0,0,0,0,0,0,0,0,0,0,0,0,0,0,0,0,0,0,0,0,0,0,0,0,0,0,0,0,0,0,0,0,0,0,0,0,0,0,0,0,0,0,0,0,0,0,0,0,0,0,0,0,0,0,0,0,0,0,0,0,0,0,0,0,0,0,0,0,0,0,0,0,0,0,0,0,0,0,0,0,0,0,0,0,0,0,0,0,0,0,0,0,0,0,0,0,0,0,0,0,0,0,0,0,0,0,0,0,0,0,0,0,0,0,0,0,0,0,0,0,0,0,0,0,0,0,0,0,0,0,0,0,0,0,0,0,0,0,0,0,0,0,0,0,0,0,0,0,0,0,0,0,0,0,0,0,0,0,0,0,0,0,0,0,0,0,0,0,0,0,0,0,0,0,0,0,0,0,0,0,0,0,0,0,0,0,0,0,0,0,0,0,0,0,0,0,0,0,0,0,0,0,0,0,0,0,0,0,0,0,0,0,0,0,0,0,0,0,0,0,0,0,0,0,0,0,0,0,0,0,0,0,0,0,0,0,0,0,0,0,0,0,0,0,0,0,0,0,0,0,0,0,0,0,0,0,0,0,0,0,0,0,0,0,0,0,0,0,0,0,0,0,0,0,0,0,0,55,65,121,77,209]) (tq (vj 0))) (.tuple #[]) 238 none true)),
  (4424, (.row 3 (ty (tq (.bool true)) (vs [119,116,108,49,0,0,0,4,0,0,0,10,0,0,2,1,0,0,0,64,0,0,0,0,0,0,0,54,105,200,157,17,18,218,36,0,0,0,5,0,0,0,0,0,0,0,55,8,172,164,160,0,0,0,0,0,0,0,0,0,0,0,0,0,0,0,0,0,0,0,0,0,0,0,0,0,0,0,0,0,0,0,0,0,0,0,0,0,0,0,0,0,0,0,0,0,0,0,0,0,0,0,0,0,0,0,0,0,0,0,0,0,0,0,0,0,0,0,0,0,0,0,0,0,0,0,0,0,0,0,0,0,0,0,0,0,0,0,0,0,0,0,0,0,0,0,0,0,0,0,0,0,0,0,0,0,0,0,0,0,0,0,0,0,0,0,0,0,0,0,0,0,0,0,0,0,0,0,0,0,0,0,0,0,0,0,0,0,0,0,0,0,0,0,0,0,0,0,0,0,0,0,0,0,0,0,0,0,0,0,0,0,0,0,0,0,0,0,0,0,0,0,0,0,0,0,0,0,0,0,0,0,0,0,0,0,0,0,0,0,0,0,0,0,0,0,0,0,0,0,0,0,0,0,0,0,0,0,0,0,0,0,0,0,0,0,0,0,0,0,0,0,0,0,0,0,0,0,0,0,0,0,0,0,0,0,0,0,0,0,0,0,0,0,0,0,0,0,0,0,0,0,0,0,0,0,0,0,0,0,0,0,0,0,0,0,0,0,0,0,0,0,0,0,0,0,0,0,0,0,0,0,0,0,0,0,0,0,0,0,0,0,0,0,0,0,0,0,0,0,0,0,0,0,0,0,0,0,0,0,0,0,0,0,0,0,0,0,0,0,0,0,0,0,0,0,0,0,0,0,0,0,0,0,0,0,0,0,0,0,0,0,0,0,0,0,0,0,0,0,0,0,0,0,0,0,0,0,0,0,0,0,0,0,0,0,0,0,0,0,0,0,0,0,0,0,0,0,0,0,0,0,0,0,0,0,0,0,0,0,0,0,0,0,0,0,0,0,0,0,0,0,0,0,0,0,0,0,0,0,0,0,0,0,0,0,0,0,0,0,0,0,0,0,0,0,0,0,0,0,0,0,0,0,0,0,0,0,0,0,0,0,0,0,0,0,0,0,0,0,0,0,0,0,0,0,0,55,51,190,39,146]) (tq (vj 0))) (.tuple #[]) 238 none true)),
  (1011, (.row 4 (ty (ty (tq (.bool false)) (vc 1010 0 200 200) te) (vj 2) (tq v0)) (.tuple #[]) 149 none true)),
  (1010, (.row 200 (tm (tm (tq (vb 1)) te) (tq (vb 1))) (vb 0) 241 none true)),
  (1013, (.row 11 (ty (ty (ty (tq v0) (vl 4431 0 0 2) te) (vl 3087 0 0 0) (ty (tq (vj 0)) v0 te)) (vj 3) (ty (ty (tq (.map none)) (.map (some 3095)) te) (.map (some 3085)) (ty (tq (.map (some 1012))) (.map none) te))) (.tuple #[]) 233 none true)),
  (4431, (.row 2 (ty (tq (vj 3)) (vj 2) te) (.tuple #[]) 3 (some 1) true)),
  (3087, (.row 1 (tq (vj 0)) (.tuple #[]) 3 (some 1) true)),
  (3095, (.map [{ key := (vj 2), val := (vj 1), born := 2 }, { key := (vj 3), val := (vj 1), born := 5 }] 6)),
  (3085, (.map [] 2)),
  (1012, (.map [] 0)),
  (3164, (.row 10 (ty (ty (ty (tq (vj 56)) (vj 3) te) (vj 10) (ty (tq (vp 3163 0)) (vj 3) te)) (vj 4) (ty (ty (tq (.iface 193 (vp 3091 0))) (vj 3) te) (vj 7) (tq (vj 64)))) (.tuple #[]) 134 none true)),
  (3163, (.row 5 (ty (ty (tq (vj 12)) (vi .u64 57) te) (vj 5) (ty (tq (.iface 132 (.agg #[(.iface 193 (vp 3091 0)), (vj 35), (vj 20)]))) (vj 3) te)) (.tuple #[]) 226 none true)),
  (3091, (.row 5 (ty (ty (tq (vj 55)) (vj 2) te) (vp 1015 0) (ty (tq (vi .u32 1098468817)) (vj 1) te)) (.tuple #[]) 270 none true)),
  (4498, (.row 10 (ty (ty (ty (tq (vj 54)) (vj 0) te) (vj 10) (ty (tq (vp 4497 0)) (vj 1) te)) (vj 4) (ty (ty (tq (.iface 193 (vp 4426 0))) (vj 2) te) (vj 0) (tq (vj 64)))) (.tuple #[]) 134 none true)),
  (4497, (.row 5 (ty (ty (tq (vj 11)) (vi .u64 55) te) (vj 5) (ty (tq (.iface 132 (.agg #[(.iface 193 (vp 4426 0)), (vj 35), (vj 20)]))) (vj 3) te)) (.tuple #[]) 226 none true)),
  (4426, (.row 5 (ty (ty (tq (vj 55)) (vj 3) te) (vp 1015 0) (ty (tq (vi .u32 868099986)) (vj 1) te)) (.tuple #[]) 270 none true))] }
theorem triNoneSum3_run (e0 e1 : TypeId) : triNoneSum3.run Tryz.prog triNoneTab3 1000000 13 triNoneLay [e0, e1] = (true, some [e0, e1]) := by kernel_rfl
noncomputable def triNoneTab4 : Tab := tabS triNoneTab3 13 (triNoneSum3.ans triNoneLay)
theorem triNoneTab4_ok : TabOk Tryz.prog triNoneTab4 := tabS_ok triNoneTab3_ok (Sum.ok triNoneTab3_ok triNone_follows (two_types triNoneSum3_run _ _))
end Go.Proofs.YtpcggglhnjeilaaGreatDoor.ev
