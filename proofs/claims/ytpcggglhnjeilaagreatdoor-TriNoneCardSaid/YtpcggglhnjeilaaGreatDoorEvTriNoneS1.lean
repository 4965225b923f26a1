/- Calls that the run of TriNone makes, each at its state: what they come to. -/
import Derived.Test.YtpcggglhnjeilaaGreatDoorEvOrc
import Derived.Test.YtpcggglhnjeilaaGreatDoorRows
import Derived.KernelRfl
namespace Go.Proofs.YtpcggglhnjeilaaGreatDoor.ev
open Go Go.RowKit
set_option maxRecDepth 100000

def triNoneLay : List (Nat × Value × Value) := [(1, vi .u8 1, vi .u64 0), (2, vi .u8 0, vi .u64 0)]
noncomputable def triNoneTab0 : Tab := orcTab
theorem triNoneTab0_ok : TabOk Tryz.prog triNoneTab0 := orcTab_ok
theorem triNone_follows : Tryz.prog.follows .mixedOrders = true := by kernel_rfl
def triNoneSum0 : Sum :=
  { nx := 1834
    args := [(vp 1026 0), (vc 1002 0 3 3)]
    pre := [(1002, (.row 3 (ty (tq (vi .u32 1)) (vi .u32 0) (tq (vi .u32 3))) (.tuple #[]) 40 none true)),
  (1026, (.row 43 (ty (ty (ty (ty (ty (tq v0) v0 te) (vl 1831 0 0 3) (ty (tq (vj 2)) v0 te)) (vj 3) (ty (ty (tq v0) v0 te) v0 (tq v0))) (vj 3) (ty (ty (ty (tq v0) v0 te) v0 (ty (tq (vj 5)) v0 te)) (vl 1336 0 0 2) (ty (ty (tq v0) v0 te) v0 (tq v0)))) (vj 7) (ty (ty (ty (ty (tq (vj 0)) (vj 0) te) (vj 0) (ty (tq (vp 1027 0)) (vj 0) te)) (vj 64) (ty (ty (tq (vj 0)) (vj 0) te) (vj 0) (tq (vj 0)))) (vj 3) (ty (ty (ty (tq (vj 0)) (vj 0) te) (vj 0) (ty (tq (vj 0)) (vj 0) te)) (vj 0) (ty (ty (tq (vj 0)) (vj 0) te) (vj 0) (tq (vj 0)))))) (.tuple #[]) 257 none true)),
  (1027, (.row 2 (ty (tq (vj 30)) (vl 1810 0 0 4) te) (.tuple #[]) 276 none true)),
  (1336, (.row 2 (ty (tq (vi .u32 2)) (vi .u32 1) te) (.tuple #[]) 40 (some 1) true)),
  (1810, (.row 4 (ty (ty (tq (vb 80)) (vb 194) te) (vb 125) (tq (vb 117))) (.tuple #[]) 5 (some 1) true)),
  (1831, (.row 3 (ty (tq (vi .u32 2)) (vi .u32 0) (tq (vi .u32 3))) (.tuple #[]) 40 (some 1) true))]
    v := (.tuple #[(vj 0), (vj 18), (vj 0)])
    nx' := 2421
    post := [(1026, (.row 43 (ty (ty (ty (ty (ty (tq v0) v0 te) (vl 1831 0 0 3) (ty (tq (vj 3)) v0 te)) (vj 3) (ty (ty (tq v0) v0 te) v0 (tq v0))) (vj 3) (ty (ty (ty (tq v0) v0 te) (vl 2420 0 0 3) (ty (tq (vj 8)) v0 te)) (vl 1336 0 0 2) (ty (ty (tq v0) v0 te) v0 (tq v0)))) (vj 7) (ty (ty (ty (ty (tq (vj 0)) (vj 0) te) (vj 0) (ty (tq (vp 1027 0)) (vj 0) te)) (vj 64) (ty (ty (tq (vj 0)) (vj 0) te) (vj 0) (tq (vj 0)))) (vj 3) (ty (ty (ty (tq (vj 0)) (vj 0) te) (vj 0) (ty (tq (vj 0)) (vj 0) te)) (vj 0) (ty (ty (tq (vj 0)) (vj 0) te) (vj 0) (tq (vj 0)))))) (.tuple #[]) 257 none true)),
  (1027, (.row 2 (ty (tq (vj 48)) (vl 2380 0 0 6) te) (.tuple #[]) 276 none true)),
  (1810, .dead),
  (2420, (.row 3 (ty (tq (vi .u32 1)) (vi .u32 0) (tq (vi .u32 3))) (.tuple #[]) 40 (some 1) true)),
  (2380, (.row 6 (ty (ty (tq (vb 80)) (vb 194) (tq (vb 74))) (vb 125) (ty (tq (vb 158)) (vb 117) te)) (.tuple #[]) 5 (some 1) true))] }
theorem triNoneSum0_run (e0 e1 : TypeId) : triNoneSum0.run Tryz.prog triNoneTab0 1000000 91 triNoneLay [e0, e1] = (true, some [e0, e1]) := by kernel_rfl
noncomputable def triNoneTab1 : Tab := tabS triNoneTab0 91 (triNoneSum0.ans triNoneLay)
theorem triNoneTab1_ok : TabOk Tryz.prog triNoneTab1 := tabS_ok triNoneTab0_ok (Sum.ok triNoneTab0_ok triNone_follows (two_types triNoneSum0_run _ _))
def triNoneSum1 : Sum :=
  { nx := 1019
    args := [(vc 1004 0 4 4), (.agg #[(vj 7), (vj 3), (vj 3), (vj 3), (vj 64)])]
    pre := [(1000, (.row 2 (ty (tq (vi .u32 2)) (vi .u32 1) te) (.tuple #[]) 40 none true)),
  (1001, (.row 3 (ty (tq (vi .u32 2)) (vi .u32 0) (tq (vi .u32 3))) (.tuple #[]) 40 none true)),
  (1002, (.row 3 (ty (tq (vi .u32 1)) (vi .u32 0) (tq (vi .u32 3))) (.tuple #[]) 40 none true)),
  (1003, (.row 2 (ty (tq (vi .u32 2)) (vi .u32 1) te) (.tuple #[]) 40 none true)),
  (1004, (.row 4 (ty (ty (tq (vc 1003 0 2 2)) (vc 1001 0 3 3) te) (vc 1000 0 2 2) (tq (vc 1002 0 3 3))) (.tuple #[]) 52 none true))]
    v := (.tuple #[(vs [119,116,108,49,0,0,0,4,0,0,0,10,7,3,3,3,0,0,0,64,0,0,0,0,0,0,0,56,125,194,117,80,158,74,99,0,0,0,5,0,0,0,0,0,0,0,57,19,0,164,80,0,0,0,0]), (vj 0)])
    nx' := 3056
    post := [] }
theorem triNoneSum1_run (e0 e1 : TypeId) : triNoneSum1.run Tryz.prog triNoneTab1 1000000 23 triNoneLay [e0, e1] = (true, some [e0, e1]) := by kernel_rfl
noncomputable def triNoneTab2 : Tab := tabS triNoneTab1 23 (triNoneSum1.ans triNoneLay)
theorem triNoneTab2_ok : TabOk Tryz.prog triNoneTab2 := tabS_ok triNoneTab1_ok (Sum.ok triNoneTab1_ok triNone_follows (two_types triNoneSum1_run _ _))
end Go.Proofs.YtpcggglhnjeilaaGreatDoor.ev
