/- Parts of the proof. -/
import Derived.Test.YtjioiemhgbkbfaaGreatDoorProg
import Derived.Test.YtjioiemhgbkbfaaGreatDoorK145
import Derived.Test.YtjioiemhgbkbfaaGreatDoorK147
import Derived.Test.YtjioiemhgbkbfaaGreatDoorK148
set_option maxHeartbeats 4000000
set_option maxRecDepth 100000
set_option linter.unusedVariables false
set_option linter.unusedSimpArgs false
set_option linter.defProp false
section
namespace Go.Proofs.YtjioiemhgbkbfaaGreatDoor
open Go Go.Tk
theorem ir127 : irOf Tryz.prog Tryz.f127 = some ⟨(.seq (.ops [.s 2 (.mov (.const (.slice none 0 0)))]) (.seq (.seq (.ops [.v 3 0, .s 4 (.leq false (.t 3) (.const (.slice none 0 0)))]) (.cond (.t 4) (.seq (.ops [.s 2 (.mov (.const (.slice none 0 0)))]) .ret) .skip)) (.seq (.ops [.s 5 (.bslice 3 [(.int .i64 0)] 0 []), .v 6 0, .s 7 (.app 61 61 0 (.t 5) (.t 6)), .v 2 7]) .ret))), [.tmp 2], 8⟩ := by kernel_rfl
end Go.Proofs.YtjioiemhgbkbfaaGreatDoor
end

section
namespace Go.Proofs.YtjioiemhgbkbfaaGreatDoor
open Go Go.Tk
end Go.Proofs.YtjioiemhgbkbfaaGreatDoor
end

section

end
