/- Calls that the run of TriNone makes, each at its state: what they come to. -/
import Derived.Test.YtpcggglhnjeilaaGreatDoorEvTriNoneS4
namespace Go.Proofs.YtpcggglhnjeilaaGreatDoor.ev
open Go Go.RowKit
set_option maxRecDepth 100000

def triNoneSum8 : Sum :=
  { nx := 7284
    args := [(.agg #[(vp 3164 0), (.map (some 4509))]), (vj 2)]
    pre := [(1009, (.row 11 (ty (ty (ty (tq v0) (vb 0) te) v0 (ty (tq (vj 0)) (vj 1) te)) (vj 0) (ty (ty (tq (.bool false)) (vj 200) te) (vj 0) (ty (tq (vj 0)) (.map (some 1008)) te))) (.tuple #[]) 146 none true)),
  (1013, (.row 11 (ty (ty (ty (tq v0) (vl 4431 0 0 2) te) (vl 3087 0 0 0) (ty (tq (vj 0)) v0 te)) (vj 3) (ty (ty (tq (.map none)) (.map (some 3095)) te) (.map (some 3085)) (ty (tq (.map (some 1012))) (.map none) te))) (.tuple #[]) 233 none true)),
  (1014, (.map [{ key := (vj 2), val := (vp 3089 0), born := 0 }, { key := (vj 3), val := (vp 4424 0), born := 1 }] 2)),
  (1015, (.row 12 (ty (ty (ty (tq (vj 0)) (.map (some 1014)) (tq (.bool false))) (vp 1011 0) (ty (tq (vj 0)) (vj 69) te)) (vp 1009 0) (ty (ty (tq (vj 0)) (vj 3) te) (vp 1013 0) (ty (tq (vj 0)) (vj 2) te))) (.tuple #[]) 157 none true)),
  (3085, (.map [] 2)),
  (3089, (.row 3 (ty (tq (.bool true)) (vs [119,116,108,49,0,0,0,4,0,0,0,10,7,3,3,3,0,0,0,64,0,0,0,0,0,0,0,56,125,194,117,80,158,74,99,0,0,0,5,0,0,0,0,0,0,0,57,19,0,164,80,0,0,0,0,0,0,0,0,0,0,0,0,0,0,0,0,0,0,0,0,0,0,0,0,0,0,0,0,0,0,0,0,0,0,0,0,0,0,0,0,0,0,0,0,0,0,0,0,0,0,0,0,0,0,0,0,0,0,0,0,0,0,0,0,0,0,0,0,0,0,0,0,0,0,0,0,0,0,0,0,0,0,0,0,0,0,0,0,0,0,0,0,0,0,0,0,0,0,0,0,0,0,0,0,0,0,0,0,0,0,0,0,0,0,0,0,0,0,0,0,0,0,0,0,0,0,0,0,0,0,0,0,0,0,0,0,0,0,0,0,0,0,0,0,0,0,0,0,0,0,0,0,0,0,0,0,0,0,0,0,0,0,0,0,0,0,0,0,0,0,0,0,0,0,0,0,0,0,0,0,0,0,0,0,0,0,0,0,0,0,0,0,0,0,0,0,0,0,0,0,0,0,0,0,0,0,0,0,0,0,0,0,0,0,0,0,0,0,0,0,0,0,0,0,0,0,0,0,0,0,0,0,0,0,0,0,0,0,0,0,0,0,0,0,0,0,0,0,0,0,0,0,0,0,0,0,0,0,0,0,0,0,0,0,0,0,0,0,0,0,0,0,0,0,0,0,0,0,0,0,0,0,0,0,0,0,0,0,0,0,0,0,0,0,0,0,0,0,0,0,0,0,0,0,0,0,0,0,0,0,0,0,0,0,0,0,0,0,0,0,0,0,0,0,0,0,0,0,0,0,0,0,0,0,0,0,0,0,0,0,0,0,0,0,0,0,0,0,0,0,0,0,0,0,0,0,0,0,0,0,0,0,0,0,0,0,0,0,0,0,0,0,0,0,0,0,0,0,0,0,0,0,0,0,0,0,0,0,0,0,0,0,0,0,0,0,0,0,0,0,0,0,0,0,0,0,0,0,0,0,0,0,0,0,0,0,0,0,0,0,0,0,0,0,0,0,0,0,0,0,0,0,0,0,0,0,0,0,0,0,0,0,0,0,0,0,0,0,0,0,0,0,0,0,0,0,55,65,121,77,209]) (tq (vj 0))) (.tuple #[]) 238 none true)),
  (3091, (.row 5 (ty (ty (tq (vj 55)) (vj 2) te) (vp 1015 0) (ty (tq (vi .u32 1098468817)) (vj 1) te)) (.tuple #[]) 270 none true)),
  (3095, (.map [{ key := (vj 3), val := (vj 1), born := 5 }, { key := (vj 2), val := (vj 1), born := 68 }] 69)),
  (3163, (.row 5 (ty (ty (tq (vj 12)) (vi .u64 57) te) (vj 5) (ty (tq (.iface 132 (.agg #[(.iface 193 (vp 3091 0)), (vj 35), (vj 20)]))) (vj 3) te)) (.tuple #[]) 226 none true)),
  (3164, (.row 10 (ty (ty (ty (tq (vj 56)) (vj 3) te) (vj 10) (ty (tq (vp 3163 0)) (vj 3) te)) (vj 4) (ty (ty (tq (.iface 193 (vp 3091 0))) (vj 3) te) (vj 7) (tq (vj 64)))) (.tuple #[]) 134 none true)),
  (4431, (.row 2 (ty (tq (vj 2)) (vj 3) te) (.tuple #[]) 3 (some 1) true)),
  (4509, (.map [{ key := (vj 0), val := (vj 2), born := 0 }, { key := (vj 1), val := (vj 3), born := 1 }, { key := (vj 2), val := (vj 3), born := 2 }, { key := (vj 3), val := (vj 2), born := 3 }] 4))]
    v := (.tuple #[v0, (vj 0)])
    nx' := 7764
    post := [(1015, (.row 12 (ty (ty (ty (tq (vj 0)) (.map (some 1014)) (tq (.bool false))) (vp 1011 0) (ty (tq (vj 0)) (vj 76) te)) (vp 1009 0) (ty (ty (tq (vj 0)) (vj 3) te) (vp 1013 0) (ty (tq (vj 0)) (vj 2) te))) (.tuple #[]) 157 none true)),
  (3095, (.map [{ key := (vj 3), val := (vj 1), born := 5 }, { key := (vj 2), val := (vj 1), born := 75 }] 76))] }
theorem triNoneSum8_run (e0 e1 : TypeId) : triNoneSum8.run Tryz.prog triNoneTab8 1000000 110 triNoneLay [e0, e1] = (true, some [e0, e1]) := by kernel_rfl
noncomputable def triNoneTab9 : Tab := tabS triNoneTab8 110 (triNoneSum8.ans triNoneLay)
theorem triNoneTab9_ok : TabOk Tryz.prog triNoneTab9 := tabS_ok triNoneTab8_ok (Sum.ok triNoneTab8_ok triNone_follows (two_types triNoneSum8_run _ _))
def triNoneSum9 : Sum :=
  { nx := 7764
    args := [(.agg #[(vp 3164 0), (.map (some 4509))]), (vj 3)]
    pre := [(1009, (.row 11 (ty (ty (ty (tq v0) (vb 0) te) v0 (ty (tq (vj 0)) (vj 1) te)) (vj 0) (ty (ty (tq (.bool false)) (vj 200) te) (vj 0) (ty (tq (vj 0)) (.map (some 1008)) te))) (.tuple #[]) 146 none true)),
  (1013, (.row 11 (ty (ty (ty (tq v0) (vl 4431 0 0 2) te) (vl 3087 0 0 0) (ty (tq (vj 0)) v0 te)) (vj 3) (ty (ty (tq (.map none)) (.map (some 3095)) te) (.map (some 3085)) (ty (tq (.map (some 1012))) (.map none) te))) (.tuple #[]) 233 none true)),
  (1014, (.map [{ key := (vj 2), val := (vp 3089 0), born := 0 }, { key := (vj 3), val := (vp 4424 0), born := 1 }] 2)),
  (1015, (.row 12 (ty (ty (ty (tq (vj 0)) (.map (some 1014)) (tq (.bool false))) (vp 1011 0) (ty (tq (vj 0)) (vj 76) te)) (vp 1009 0) (ty (ty (tq (vj 0)) (vj 3) te) (vp 1013 0) (ty (tq (vj 0)) (vj 2) te))) (.tuple #[]) 157 none true)),
  (3085, (.map [] 2)),
  (3089, (.row 3 (ty (tq (.bool true)) (vs [119,116,108,49,0,0,0,4,0,0,0,10,7,3,3,3,0,0,0,64,0,0,0,0,0,0,0,56,125,194,117,80,158,74,99,0,0,0,5,0,0,0,0,0,0,0,57,19,0,164,80,0,0,0,0,0,0,0,0,0,0,0,0,0,0,0,0,0,0,0,0,0,0,0,0,0,0,0,0,0,0,0,0,0,0,0,0,0,0,0,0,0,0,0,0,0,0,0,0,0,0,0,0,0,0,0,0,0,0,0,0,0,0,0,0,0,0,0,0,0,0,0,0,0,0,0,0,0,0,0,0,0,0,0,0,0,0,0,0,0,0,0,0,0,0,0,0,0,0,0,0,0,0,0,0,0,0,0,0,0,0,0,0,0,0,0,0,0,0,0,0,0,0,0,0,0,0,0,0,0,0,0,0,0,0,0,0,0,0,0,0,0,0,0,0,0,0,0,0,0,0,0,0,0,0,0,0,0,0,0,0,0,0,0,0,0,0,0,0,0,0,0,0,0,0,0,0,0,0,0,0,0,0,0,0,0,0,0,0,0,0,0,0,0,0,0,0,0,0,0,0,0,0,0,0,0,0,0,0,0,0,0,0,0,0,0,0,0,0,0,0,0,0,0,0,0,0,0,0,0,0,0,0,0,0,0,0,0,0,0,0,0,0,0,0,0,0,0,0,0,0,0,0,0,0,0,0,0,0,0,0,0,0,0,0,0,0,0,0,0,0,0,0,0,0,0,0,0,0,0,0,0,0,0,0,0,0,0,0,0,0,0,0,0,0,0,0,0,0,0,0,0,0,0,0,0,0,0,0,0,0,0,0,0,0,0,0,0,0,0,0,0,0,0,0,0,0,0,0,0,0,0,0,0,0,0,0,0,0,0,0,0,0,0,0,0,0,0,0,0,0,0,0,0,0,0,0,0,0,0,0,0,0,0,0,0,0,0,0,0,0,0,0,0,0,0,0,0,0,0,0,0,0,0,0,0,0,0,0,0,0,0,0,0,0,0,0,0,0,0,0,0,0,0,0,0,0,0,0,0,0,0,0,0,0,0,0,0,0,0,0,0,0,0,0,0,0,0,0,0,0,0,0,0,0,0,0,0,0,0,0,0,0,0,0,0,0,0,0,0,0,0,0,0,0,0,0,55,65,121,77,209]) (tq (vj 0))) (.tuple #[]) 238 none true)),
  (3091, (.row 5 (ty (ty (tq (vj 55)) (vj 2) te) (vp 1015 0) (ty (tq (vi .u32 1098468817)) (vj 1) te)) (.tuple #[]) 270 none true)),
  (3095, (.map [{ key := (vj 3), val := (vj 1), born := 5 }, { key := (vj 2), val := (vj 1), born := 75 }] 76)),
  (3163, (.row 5 (ty (ty (tq (vj 12)) (vi .u64 57) te) (vj 5) (ty (tq (.iface 132 (.agg #[(.iface 193 (vp 3091 0)), (vj 35), (vj 20)]))) (vj 3) te)) (.tuple #[]) 226 none true)),
  (3164, (.row 10 (ty (ty (ty (tq (vj 56)) (vj 3) te) (vj 10) (ty (tq (vp 3163 0)) (vj 3) te)) (vj 4) (ty (ty (tq (.iface 193 (vp 3091 0))) (vj 3) te) (vj 7) (tq (vj 64)))) (.tuple #[]) 134 none true)),
  (4431, (.row 2 (ty (tq (vj 2)) (vj 3) te) (.tuple #[]) 3 (some 1) true)),
  (4509, (.map [{ key := (vj 0), val := (vj 2), born := 0 }, { key := (vj 1), val := (vj 3), born := 1 }, { key := (vj 2), val := (vj 3), born := 2 }, { key := (vj 3), val := (vj 2), born := 3 }] 4))]
    v := (.tuple #[(vl 8467 0 0 2), (vj 0)])
    nx' := 8468
    post := [(1015, (.row 12 (ty (ty (ty (tq (vj 0)) (.map (some 1014)) (tq (.bool false))) (vp 1011 0) (ty (tq (vj 0)) (vj 90) te)) (vp 1009 0) (ty (ty (tq (vj 0)) (vj 3) te) (vp 1013 0) (ty (tq (vj 0)) (vj 2) te))) (.tuple #[]) 157 none true)),
  (3095, (.map [{ key := (vj 3), val := (vj 1), born := 5 }, { key := (vj 2), val := (vj 1), born := 89 }] 90)),
  (8467, (.row 2 (ty (tq (vi .u32 2)) (vi .u32 1) te) (.tuple #[]) 40 (some 1) true))] }
theorem triNoneSum9_run (e0 e1 : TypeId) : triNoneSum9.run Tryz.prog triNoneTab9 1000000 110 triNoneLay [e0, e1] = (true, some [e0, e1]) := by kernel_rfl
noncomputable def triNoneTab10 : Tab := tabS triNoneTab9 110 (triNoneSum9.ans triNoneLay)
theorem triNoneTab10_ok : TabOk Tryz.prog triNoneTab10 := tabS_ok triNoneTab9_ok (Sum.ok triNoneTab9_ok triNone_follows (two_types triNoneSum9_run _ _))
end Go.Proofs.YtpcggglhnjeilaaGreatDoor.ev
