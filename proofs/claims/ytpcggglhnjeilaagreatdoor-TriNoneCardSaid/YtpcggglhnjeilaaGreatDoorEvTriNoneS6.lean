/- Calls that the run of TriNone makes, each at its state: what they come to. -/
import Derived.Test.YtpcggglhnjeilaaGreatDoorEvTriNoneS5
namespace Go.Proofs.YtpcggglhnjeilaaGreatDoor.ev
open Go Go.RowKit
set_option maxRecDepth 100000

def triNoneSum10 : Sum :=
  { nx := 8952
    args := [(.agg #[(vp 3164 0), (.map (some 4509))]), (vj 2)]
    pre := [(1009, (.row 11 (ty (ty (ty (tq v0) (vb 0) te) v0 (ty (tq (vj 0)) (vj 1) te)) (vj 0) (ty (ty (tq (.bool false)) (vj 200) te) (vj 0) (ty (tq (vj 0)) (.map (some 1008)) te))) (.tuple #[]) 146 none true)),
  (1013, (.row 11 (ty (ty (ty (tq v0) (vl 4431 0 0 2) te) (vl 3087 0 0 0) (ty (tq (vj 0)) v0 te)) (vj 3) (ty (ty (tq (.map none)) (.map (some 3095)) te) (.map (some 3085)) (ty (tq (.map (some 1012))) (.map none) te))) (.tuple #[]) 233 none true)),
  (1014, (.map [{ key := (vj 2), val := (vp 3089 0), born := 0 }, { key := (vj 3), val := (vp 4424 0), born := 1 }] 2)),
  (1015, (.row 12 (ty (ty (ty (tq (vj 0)) (.map (some 1014)) (tq (.bool false))) (vp 1011 0) (ty (tq (vj 0)) (vj 97) te)) (vp 1009 0) (ty (ty (tq (vj 0)) (vj 3) te) (vp 1013 0) (ty (tq (vj 0)) (vj 2) te))) (.tuple #[]) 157 none true)),
  (3085, (.map [] 2)),
  (3089, (.row 3 (ty (tq (.bool true)) (vs [119,116,108,49,0,0,0,4,0,0,0,10,7,3,3,3,0,0,0,64,0,0,0,0,0,0,0,56,125,194,117,80,158,74,99,0,0,0,5,0,0,0,0,0,0,0,57,19,0,164,80,0,0,0,0,0,0,0,0,0,0,0,0,0,0,0,0,0,0,0,0,0,0,0,0,0,0,0,0,0,0,0,0,0,0,0,0,0,0,0,0,0,0,0,0,0,0,0,0,0,0,0,0,0,0,0,0,0,0,0,0,0,0,0,0,0,0,0,0,0,0,0,0,0,0,0,0,0,0,0,0,0,0,0,0,0,0,0,0,0,0,0,0,0,0,0,0,0,0,0,0,0,0,0,0,0,0,0,0,0,0,0,0,0,0,0,0,0,0,0,0,0,0,0,0,0,0,0,0,0,0,0,0,0,0,0,0,0,0,0,0,0,0,0,0,0,0,0,0,0,0,0,0,0,0,0,0,0,0,0,0,0,0,0,0,0,0,0,0,0,0,0,0,0,0,0,0,0,0,0,0,0,0,0,0,0,0,0,0,0,0,0,0,0,0,0,0,0,0,0,0,0,0,0,0,0,0,0,0,0,0,0,0,0,0,0,0,0,0,0,0,0,0,0,0,0,0,0,0,0,0,0,0,0,0,0,0,0,0,0,0,0,0,0,0,0,0,0,0,0,0,0,0,0,0,0,0,0,0,0,0,0,0,0,0,0,0,0,0,0,0,0,0,0,0,0,0,0,0,0,0,0,0,0,0,0,0,0,0,0,0,0,0,0,0,0,0,0,0,0,0,0,0,0,0,0,0,0,0,0,0,0,0,0,0,0,0,0,0,0,0,0,0,0,0,0,0,0,0,0,0,0,0,0,0,0,0,0,0,0,0,0,0,0,0,0,0,0,0,0,0,0,0,0,0,0,0,0,0,0,0,0,0,0,0,0,0,0,0,0,0,0,0,0,0,0,0,0,0,0,0,0,0,0,0,0,0,0,0,0,0,0,0,0,0,0,0,0,0,0,0,0,0,0,0,0,0,0,0,0,0,0,0,0,0,0,0,0,0,0,0,0,0,0,0,0,0,0,0,0,0,0,0,0,0,0,0,0,0,0,0,0,0,0,0,0,0,0,0,0,0,0,0,0,0,0,0,55,65,121,77,209]) (tq (vj 0))) (.tuple #[]) 238 none true)),
  (3091, (.row 5 (ty (ty (tq (vj 55)) (vj 2) te) (vp 1015 0) (ty (tq (vi .u32 1098468817)) (vj 1) te)) (.tuple #[]) 270 none true)),
  (3095, (.map [{ key := (vj 3), val := (vj 1), born := 5 }, { key := (vj 2), val := (vj 1), born := 96 }] 97)),
  (3163, (.row 5 (ty (ty (tq (vj 12)) (vi .u64 57) te) (vj 5) (ty (tq (.iface 132 (.agg #[(.iface 193 (vp 3091 0)), (vj 35), (vj 20)]))) (vj 3) te)) (.tuple #[]) 226 none true)),
  (3164, (.row 10 (ty (ty (ty (tq (vj 56)) (vj 3) te) (vj 10) (ty (tq (vp 3163 0)) (vj 3) te)) (vj 4) (ty (ty (tq (.iface 193 (vp 3091 0))) (vj 3) te) (vj 7) (tq (vj 64)))) (.tuple #[]) 134 none true)),
  (4431, (.row 2 (ty (tq (vj 2)) (vj 3) te) (.tuple #[]) 3 (some 1) true)),
  (4509, (.map [{ key := (vj 0), val := (vj 2), born := 0 }, { key := (vj 1), val := (vj 3), born := 1 }, { key := (vj 2), val := (vj 3), born := 2 }, { key := (vj 3), val := (vj 2), born := 3 }] 4))]
    v := (.tuple #[v0, (vj 0)])
    nx' := 9432
    post := [(1015, (.row 12 (ty (ty (ty (tq (vj 0)) (.map (some 1014)) (tq (.bool false))) (vp 1011 0) (ty (tq (vj 0)) (vj 104) te)) (vp 1009 0) (ty (ty (tq (vj 0)) (vj 3) te) (vp 1013 0) (ty (tq (vj 0)) (vj 2) te))) (.tuple #[]) 157 none true)),
  (3095, (.map [{ key := (vj 3), val := (vj 1), born := 5 }, { key := (vj 2), val := (vj 1), born := 103 }] 104))] }
theorem triNoneSum10_run (e0 e1 : TypeId) : triNoneSum10.run Tryz.prog triNoneTab10 1000000 110 triNoneLay [e0, e1] = (true, some [e0, e1]) := by kernel_rfl
noncomputable def triNoneTab11 : Tab := tabS triNoneTab10 110 (triNoneSum10.ans triNoneLay)
theorem triNoneTab11_ok : TabOk Tryz.prog triNoneTab11 := tabS_ok triNoneTab10_ok (Sum.ok triNoneTab10_ok triNone_follows (two_types triNoneSum10_run _ _))
def triNoneSum11 : Sum :=
  { nx := 1018
    args := [(vc 1003 0 3 3), (.agg #[(vj 7), (vj 3), (vj 3), (vj 3), (vj 64)])]
    pre := [(1000, (.row 2 (ty (tq (vi .u32 2)) (vi .u32 1) te) (.tuple #[]) 40 none true)),
  (1001, (.row 2 (ty (tq (vi .u32 2)) (vi .u32 0) te) (.tuple #[]) 40 none true)),
  (1002, (.row 2 (ty (tq (vi .u32 1)) (vi .u32 0) te) (.tuple #[]) 40 none true)),
  (1003, (.row 3 (ty (tq (vc 1001 0 2 2)) (vc 1000 0 2 2) (tq (vc 1002 0 2 2))) (.tuple #[]) 52 none true))]
    v := (.tuple #[(vs [119,116,108,49,0,0,0,3,0,0,0,6,7,3,3,3,0,0,0,64,0,0,0,0,0,0,0,37,125,199,213,63,32,0,0,0,4,0,0,0,0,0,0,0,38,16,208,165,0,0,0,0]), (vj 0)])
    nx' := 2367
    post := [] }
theorem triNoneSum11_run (e0 e1 : TypeId) : triNoneSum11.run Tryz.prog triNoneTab11 1000000 23 triNoneLay [e0, e1] = (true, some [e0, e1]) := by kernel_rfl
noncomputable def triNoneTab12 : Tab := tabS triNoneTab11 23 (triNoneSum11.ans triNoneLay)
theorem triNoneTab12_ok : TabOk Tryz.prog triNoneTab12 := tabS_ok triNoneTab11_ok (Sum.ok triNoneTab11_ok triNone_follows (two_types triNoneSum11_run _ _))
end Go.Proofs.YtpcggglhnjeilaaGreatDoor.ev
