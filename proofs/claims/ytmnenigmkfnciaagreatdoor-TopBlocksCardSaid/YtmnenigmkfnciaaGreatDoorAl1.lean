/- alone() gives true. No condition. -/
import Derived.Test.YtmnenigmkfnciaaGreatDoorAl0
namespace Go.Proofs.YtmnenigmkfnciaaGreatDoor.Sx
open Go
set_option maxRecDepth 100000
theorem alone_vf (K : SV → Prop) : (vf Tryz.prog aS26 noI Tryz.f4 [] [] fun s _ _ => K s) = K (.v (.bool true)) := by kernel_rfl
theorem alone_ok : SpecOK Tryz.prog 4 closedS := closed_ok mixed aS26_ok Tryz.func4 rfl rfl alone_vf
end Go.Proofs.YtmnenigmkfnciaaGreatDoor.Sx
