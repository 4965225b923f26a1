/- Calls that the run of TurnNone makes, each at its state: what they come to. -/
import Derived.Test.YtpcggglhnjeilaaGreatDoorEvE
import Derived.Test.YtpcggglhnjeilaaGreatDoorRows
import Derived.KernelRfl
namespace Go.Proofs.YtpcggglhnjeilaaGreatDoor.ev
open Go Go.RowKit
set_option maxRecDepth 100000

def turnNoneLay : List (Nat × Value × Value) := [(1, vi .u8 1, vi .u64 0), (2, vi .u8 0, vi .u64 0)]
noncomputable def turnNoneTab0 : Tab := tabP Tryz.prog
theorem turnNoneTab0_ok : TabOk Tryz.prog turnNoneTab0 := tabP_ok (by kernel_rfl)
theorem turnNone_follows : Tryz.prog.follows .mixedOrders = true := by kernel_rfl
def turnNoneSum0 : Sum :=
  { nx := 4428
    args := [(vp 4423 0), (.agg #[(vj 3), (vj 4), (vj 7), (vj 3), (vj 4), (vj 3), (vj 1024), (vj 30)]), (vl 4396 0 0 4), (vp 2265 0)]
    pre := [(1004, (.row 11 (ty (ty (ty (tq v0) (vb 0) te) v0 (ty (tq (vj 0)) (vj 1) te)) (vj 0) (ty (ty (tq (.bool false)) (vj 56) te) (vj 0) (ty (tq (vj 0)) (.map (some 1003)) te))) (.tuple #[]) 146 none true)),
  (1008, (.row 11 (ty (ty (ty (tq v0) v0 te) v0 (ty (tq (vj 0)) v0 te)) (vj 1) (ty (ty (tq (.map none)) (.map none) te) (.map none) (ty (tq (.map (some 1007))) (.map none) te))) (.tuple #[]) 233 none true)),
  (1009, (.map [] 0)),
  (1010, (.row 12 (ty (ty (ty (tq (vj 0)) (.map (some 1009)) (tq (.bool false))) (vp 1006 0) (ty (tq (vj 0)) (vj 0) te)) (vp 1004 0) (ty (ty (tq (vj 0)) (vj 1) te) (vp 1008 0) (ty (tq (vj 0)) (vj 0) te))) (.tuple #[]) 157 none true)),
  (2265, (.row 13 (ty (ty (ty (tq (vb 1)) (.bool true) (tq (vj 0))) (vj 8) (ty (tq (vj 4)) (vj 4) te)) (vp 1010 0) (ty (ty (tq (.pointer none)) (vl 3265 0 0 4) (tq (vj 32))) (vj 1536) (ty (tq (vj 0)) v0 te))) (.tuple #[]) 167 none true)),
  (3265, (.row 4 (ty (ty (tq (vs [0,0,0,2,0,0,0,0])) (vs [0,0,0,1,0,0,0,0]) te) (vs [0,0,0,0,0,0,0,2]) (tq (vs [0,0,0,1,0,0,0,1]))) (.tuple #[]) 9 (some 1) true)),
  (4396, (.row 4 (ty (ty (tq (vi .u64 30)) (vi .u64 9) te) (vi .u64 0) (tq (vi .u64 21))) (.tuple #[]) 58 (some 1) true)),
  (4421, (.row 1 (tq (vp 1010 0)) (.tuple #[]) 23 none true)),
  (4422, (.row 2 (ty (tq (vj 1)) (vj 1) te) (.tuple #[]) 29 none true)),
  (4423, (.row 9 (ty (ty (ty (tq (.func (.func 100) #[] #[(vp 4421 0), (vp 4422 0), (vp 4424 0)])) v0 te) (vj 1) (tq (vj 0))) (vp 1010 0) (ty (ty (tq (.bool false)) (vj 0) te) (vj 1) (tq (vi .u32 0)))) (.tuple #[]) 190 none true)),
  (4424, (.row 1 (tq (vp 4423 0)) (.tuple #[]) 102 none true))]
    v := (vj 0)
    nx' := 5690
    post := [(1008, (.row 11 (ty (ty (ty (tq v0) v0 te) (vl 5687 0 0 1) (ty (tq (vj 0)) v0 te)) (vj 1) (ty (ty (tq (.map none)) (.map none) te) (.map (some 5685)) (ty (tq (.map (some 1007))) (.map none) te))) (.tuple #[]) 233 none true)),
  (1009, (.map [{ key := (vj 1), val := (vp 5689 0), born := 0 }] 1)),
  (1010, (.row 12 (ty (ty (ty (tq (vj 0)) (.map (some 1009)) (tq (.bool false))) (vp 1006 0) (ty (tq (vj 0)) (vj 0) te)) (vp 1004 0) (ty (ty (tq (vj 0)) (vj 1) te) (vp 1008 0) (ty (tq (vj 0)) (vj 1) te))) (.tuple #[]) 157 none true)),
  (4423, (.row 9 (ty (ty (ty (tq (.func (.func 100) #[] #[(vp 4421 0), (vp 4422 0), (vp 4424 0)])) (vl 5678 0 0 51) te) (vj 1) (tq (vj 51))) (vp 1010 0) (ty (ty (tq (.bool true)) (vj 1) te) (vj 1) (tq (vi .u32 1466240908)))) (.tuple #[]) 190 none true)),
  (5687, (.row 1 (tq (vj 1)) (.tuple #[]) 3 (some 1) true)),
  (5685, (.map [{ key := (vj 1), val := (vj 1), born := 0 }] 1)),
  (5689, (.row 3 (ty (tq (.bool true)) (vs [119,116,108,49,0,0,0,3,0,0,0,4,7,3,4,3,0,0,4,0,0,0,0,0,0,0,0,30,94,190,162,240,0,0,0,4,0,0,0,0,0,0,0,31,22,145,32,0,0,0,0,0,0,0,0,0,0,0,0,0,0,0,0,0,0,0,0,0,0,0,0,0,0,0,0,0,0,0,0,0,0,0,0,0,0,0,0,0,0,0,0,0,0,0,0,0,0,0,0,0,0,0,0,0,0,0,0,0,0,0,0,0,0,0,0,0,0,0,0,0,0,0,0,0,0,0,0,0,0,0,0,0,0,0,0,0,0,0,0,0,0,0,0,0,0,0,0,0,0,0,0,0,0,0,0,0,0,0,0,0,0,0,0,0,0,0,0,0,0,0,0,0,0,0,0,0,0,0,0,0,0,0,0,0,0,0,0,0,0,0,0,0,0,0,0,0,0,0,0,0,0,0,0,0,0,0,0,0,0,0,0,0,0,0,0,0,0,0,0,0,0,0,0,0,0,0,0,0,0,0,0,0,0,0,0,0,0,0,0,0,0,0,0,0,0,0,0,0,0,0,0,0,0,0,0,0,0,0,0,0,0,0,0,0,0,0,0,0,0,0,0,0,0,0,0,0,0,0,0,0,0,0,0,0,0,0,0,0,0,0,0,0,0,0,0,0,0,0,0,0,0,0,0,0,0,0,0,0,0,0,0,0,0,0,0,0,0,0,0,0,0,0,0,0,0,0,0,0,0,0,0,0,0,0,0,0,0,0,0,0,0,0,0,0,0,0,0,0,0,0,0,0,0,0,0,0,0,0,0,0,0,0,0,0,0,0,0,0,0,0,0,0,0,0,0,0,0,0,0,0,0,0,0,0,0,0,0,0,0,0,0,0,0,0,0,0,0,0,0,0,0,0,0,0,0,0,0,0,0,0,0,0,0,0,0,0,0,0,0,0,0,0,0,0,0,0,0,0,0,0,0,0,0,0,0,0,0,0,0,0,0,0,0,0,0,0,0,0,0,0,0,0,0,0,0,0,0,0,0,0,0,0,0,0,0,0,0,0,0,0,0,0,0,0,0,0,0,0,0,0,0,0,0,0,0,0,0,0,0,0,0,0,0,0,0,0,0,0,0,0,0,0,0,0,0,0,0,51,87,101,15,140]) (tq (vj 0))) (.tuple #[]) 238 none true)),
  (5678, .dead)] }
theorem turnNoneSum0_run (e0 e1 : TypeId) : turnNoneSum0.run Tryz.prog turnNoneTab0 1000000 49 turnNoneLay [e0, e1] = (true, some [e0, e1]) := by kernel_rfl
noncomputable def turnNoneTab1 : Tab := tabS turnNoneTab0 49 (turnNoneSum0.ans turnNoneLay)
theorem turnNoneTab1_ok : TabOk Tryz.prog turnNoneTab1 := tabS_ok turnNoneTab0_ok (Sum.ok turnNoneTab0_ok turnNone_follows (two_types turnNoneSum0_run _ _))
def turnNoneSum1 : Sum :=
  { nx := 3266
    args := [(vp 1010 0), (vj 3), (vp 2265 0), (.agg #[(vj 7), (vj 3), (vj 4), (vj 3), (vj 1024)])]
    pre := [(1004, (.row 11 (ty (ty (ty (tq v0) (vb 0) te) v0 (ty (tq (vj 0)) (vj 1) te)) (vj 0) (ty (ty (tq (.bool false)) (vj 56) te) (vj 0) (ty (tq (vj 0)) (.map (some 1003)) te))) (.tuple #[]) 146 none true)),
  (1005, (.row 56 te (vb 0) 241 none true)),
  (1006, (.row 4 (ty (ty (tq (.bool false)) (vc 1005 0 56 56) te) (vj 1) (tq v0)) (.tuple #[]) 149 none true)),
  (1008, (.row 11 (ty (ty (ty (tq v0) v0 te) v0 (ty (tq (vj 0)) v0 te)) (vj 1) (ty (ty (tq (.map none)) (.map none) te) (.map none) (ty (tq (.map (some 1007))) (.map none) te))) (.tuple #[]) 233 none true)),
  (1009, (.map [] 0)),
  (1010, (.row 12 (ty (ty (ty (tq (vj 0)) (.map (some 1009)) (tq (.bool false))) (vp 1006 0) (ty (tq (vj 0)) (vj 0) te)) (vp 1004 0) (ty (ty (tq (vj 0)) (vj 1) te) (vp 1008 0) (ty (tq (vj 0)) (vj 0) te))) (.tuple #[]) 157 none true)),
  (2265, (.row 13 (ty (ty (ty (tq (vb 1)) (.bool true) (tq (vj 0))) (vj 8) (ty (tq (vj 0)) (vj 4) te)) (vp 1010 0) (ty (ty (tq (.pointer none)) (vl 3265 0 0 4) (tq (vj 32))) (vj 1536) (ty (tq (vj 0)) v0 te))) (.tuple #[]) 167 none true)),
  (3265, (.row 4 (ty (ty (tq (vs [0,0,0,2,0,0,0,0])) (vs [0,0,0,1,0,0,0,0]) te) (vs [0,0,0,0,0,0,0,2]) (tq (vs [0,0,0,1,0,0,0,1]))) (.tuple #[]) 9 (some 1) true))]
    v := (.tuple #[(.agg #[(vj 1), (vj 1), (vj 51), (vj 3), (vj 4)]), (vj 0)])
    nx' := 5690
    post := [(1005, (.row 56 (tm (tq (vb 1)) te) (vb 0) 241 none true)),
  (1008, (.row 11 (ty (ty (ty (tq v0) v0 te) (vl 5687 0 0 1) (ty (tq (vj 0)) v0 te)) (vj 1) (ty (ty (tq (.map none)) (.map none) te) (.map (some 5685)) (ty (tq (.map (some 1007))) (.map none) te))) (.tuple #[]) 233 none true)),
  (1009, (.map [{ key := (vj 1), val := (vp 5689 0), born := 0 }] 1)),
  (1010, (.row 12 (ty (ty (ty (tq (vj 0)) (.map (some 1009)) (tq (.bool false))) (vp 1006 0) (ty (tq (vj 0)) (vj 0) te)) (vp 1004 0) (ty (ty (tq (vj 0)) (vj 1) te) (vp 1008 0) (ty (tq (vj 0)) (vj 1) te))) (.tuple #[]) 157 none true)),
  (2265, (.row 13 (ty (ty (ty (tq (vb 1)) (.bool true) (tq (vj 0))) (vj 8) (ty (tq (vj 4)) (vj 4) te)) (vp 1010 0) (ty (ty (tq (.pointer none)) (vl 3265 0 0 4) (tq (vj 32))) (vj 1536) (ty (tq (vj 0)) v0 te))) (.tuple #[]) 167 none true)),
  (5687, (.row 1 (tq (vj 1)) (.tuple #[]) 3 (some 1) true)),
  (5685, (.map [{ key := (vj 1), val := (vj 1), born := 0 }] 1)),
  (5689, (.row 3 (ty (tq (.bool true)) (vs [119,116,108,49,0,0,0,3,0,0,0,4,7,3,4,3,0,0,4,0,0,0,0,0,0,0,0,30,94,190,162,240,0,0,0,4,0,0,0,0,0,0,0,31,22,145,32,0,0,0,0,0,0,0,0,0,0,0,0,0,0,0,0,0,0,0,0,0,0,0,0,0,0,0,0,0,0,0,0,0,0,0,0,0,0,0,0,0,0,0,0,0,0,0,0,0,0,0,0,0,0,0,0,0,0,0,0,0,0,0,0,0,0,0,0,0,0,0,0,0,0,0,0,0,0,0,0,0,0,0,0,0,0,0,0,0,0,0,0,0,0,0,0,0,0,0,0,0,0,0,0,0,0,0,0,0,0,0,0,0,0,0,0,0,0,0,0,0,0,0,0,0,0,0,0,0,0,0,0,0,0,0,0,0,0,0,0,0,0,0,0,0,0,0,0,0,0,0,0,0,0,0,0,0,0,0,0,0,0,0,0,0,0,0,0,0,0,0,0,0,0,0,0,0,0,0,0,0,0,0,0,0,0,0,0,0,0,0,0,0,0,0,0,0,0,0,0,0,0,0,0,0,0,0,0,0,0,0,0,0,0,0,0,0,0,0,0,0,0,0,0,0,0,0,0,0,0,0,0,0,0,0,0,0,0,0,0,0,0,0,0,0,0,0,0,0,0,0,0,0,0,0,0,0,0,0,0,0,0,0,0,0,0,0,0,0,0,0,0,0,0,0,0,0,0,0,0,0,0,0,0,0,0,0,0,0,0,0,0,0,0,0,0,0,0,0,0,0,0,0,0,0,0,0,0,0,0,0,0,0,0,0,0,0,0,0,0,0,0,0,0,0,0,0,0,0,0,0,0,0,0,0,0,0,0,0,0,0,0,0,0,0,0,0,0,0,0,0,0,0,0,0,0,0,0,0,0,0,0,0,0,0,0,0,0,0,0,0,0,0,0,0,0,0,0,0,0,0,0,0,0,0,0,0,0,0,0,0,0,0,0,0,0,0,0,0,0,0,0,0,0,0,0,0,0,0,0,0,0,0,0,0,0,0,0,0,0,0,0,0,0,0,0,0,0,0,0,0,0,0,0,0,0,0,0,0,0,0,0,0,0,0,0,0,0,0,0,0,0,0,0,0,0,0,0,0,0,51,87,101,15,140]) (tq (vj 0))) (.tuple #[]) 238 none true))] }
theorem turnNoneSum1_run (e0 e1 : TypeId) : turnNoneSum1.run Tryz.prog turnNoneTab1 1000000 9 turnNoneLay [e0, e1] = (true, some [e0, e1]) := by kernel_rfl
noncomputable def turnNoneTab2 : Tab := tabS turnNoneTab1 9 (turnNoneSum1.ans turnNoneLay)
theorem turnNoneTab2_ok : TabOk Tryz.prog turnNoneTab2 := tabS_ok turnNoneTab1_ok (Sum.ok turnNoneTab1_ok turnNone_follows (two_types turnNoneSum1_run _ _))
end Go.Proofs.YtpcggglhnjeilaaGreatDoor.ev
