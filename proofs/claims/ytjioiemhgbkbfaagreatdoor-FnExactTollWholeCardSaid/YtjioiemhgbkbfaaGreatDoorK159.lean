/- Parts of the proof. -/
import Derived.Test.YtjioiemhgbkbfaaGreatDoorProg
import Derived.Test.YtjioiemhgbkbfaaGreatDoorK155
import Derived.Test.YtjioiemhgbkbfaaGreatDoorK157
import Derived.Test.YtjioiemhgbkbfaaGreatDoorK158
set_option maxHeartbeats 4000000
set_option maxRecDepth 100000
set_option linter.unusedVariables false
set_option linter.unusedSimpArgs false
set_option linter.defProp false
section
namespace Go.Proofs.YtjioiemhgbkbfaaGreatDoor
open Go Go.Tk
theorem ir271 : irOf Tryz.prog Tryz.f271 = some ⟨(.seq (.ops [.s 2 (.box 281 (.t 0))]) (.seq (.draw [⟨0, .v 5 1⟩, ⟨0, .s 6 (.nilc (.t 5))⟩, ⟨0, .s 7 (.fld (.t 6) 0)⟩, ⟨0, .s 8 (.load (.t 7) 1 false)⟩, ⟨0, .s 9 (.fld (.t 2) 0)⟩, ⟨0, .s 10 (.load (.t 9) 6 true)⟩, ⟨1, .s 11 (.call 270 [(.t 10)])⟩, ⟨1, .s 12 (.raw (.lookup 205 (.t 8) (.t 11) false) 137)⟩, ⟨4, .s 4 (.alloc 137 [(.int .i64 0), (.int .i64 0), (.int .i64 0), (.int .i64 0), (.slice none 0 0), (.slice none 0 0)])⟩, ⟨3, .n (.store (.t 4) (.t 12) 6)⟩]) (.seq (.draw [⟨0, .v 13 1⟩, ⟨0, .s 14 (.nilc (.t 13))⟩, ⟨0, .s 15 (.fld (.t 14) 1)⟩, ⟨0, .s 16 (.load (.t 15) 1 false)⟩, ⟨2, .s 17 (.fld (.t 2) 0)⟩, ⟨2, .s 18 (.load (.t 17) 6 true)⟩, ⟨4, .s 19 (.call 270 [(.t 18)])⟩, ⟨3, .n (.raw (.mapUpdate 206 (.t 16) (.t 19) (.i 2)) 0)⟩]) (.seq (.ops [.s 20 (.fld (.t 4) 3), .s 21 (.load (.t 20) 1 false)]) (.block 0 (.seq (.ops [.s 23 (.bin .eql 3 (.t 21) (.i 1)), .v 22 23]) (.cond (.t 22) (.draw [⟨0, .v 24 1⟩, ⟨0, .v 25 1⟩, ⟨0, .s 26 (.nilc (.t 25))⟩, ⟨0, .s 27 (.fld (.t 26) 11)⟩, ⟨0, .s 28 (.load (.t 27) 1 false)⟩, ⟨2, .s 29 (.fld (.t 2) 0)⟩, ⟨2, .s 30 (.fld (.t 29) 5)⟩, ⟨2, .s 31 (.load (.t 30) 1 false)⟩, ⟨2, .s 32 (.call 273 [(.t 28), (.t 31)])⟩, ⟨2, .s 33 (.nilc (.t 24))⟩, ⟨4, .s 34 (.fld (.t 33) 11)⟩, ⟨3, .n (.store (.t 34) (.t 32) 1)⟩]) (.seq (.ops [.s 36 (.bin .eql 3 (.t 21) (.i 2)), .v 35 36]) (.cond (.t 35) (.seq (.draw [⟨0, .v 37 1⟩, ⟨0, .s 38 (.fld (.t 4) 4)⟩, ⟨0, .s 39 (.load (.t 38) 1 false)⟩, ⟨0, .s 40 (.idxS (.t 39) (.i 0) 1)⟩, ⟨0, .s 41 (.load (.t 40) 1 false)⟩, ⟨2, .s 42 (.nilc (.t 37))⟩, ⟨2, .s 43 (.fld (.t 42) 3)⟩, ⟨4, .s 44 (.idxA (.t 43) (.t 41) 8 1)⟩, ⟨3, .n (.store (.t 44) (.const (.bool false)) 1)⟩]) (.draw [⟨0, .v 45 1⟩, ⟨0, .v 46 1⟩, ⟨0, .s 47 (.nilc (.t 46))⟩, ⟨0, .s 48 (.fld (.t 47) 11)⟩, ⟨0, .s 49 (.load (.t 48) 1 false)⟩, ⟨2, .s 50 (.fld (.t 4) 4)⟩, ⟨2, .s 51 (.load (.t 50) 1 false)⟩, ⟨2, .s 52 (.call 274 [(.t 49), (.t 51)])⟩, ⟨2, .s 53 (.nilc (.t 45))⟩, ⟨4, .s 54 (.fld (.t 53) 11)⟩, ⟨3, .n (.store (.t 54) (.t 52) 1)⟩])) (.seq (.ops [.s 56 (.bin .eql 3 (.t 21) (.i 3)), .v 55 56]) (.cond (.t 55) (.seq (.draw [⟨0, .v 57 1⟩, ⟨0, .s 58 (.fld (.t 4) 4)⟩, ⟨0, .s 59 (.load (.t 58) 1 false)⟩, ⟨0, .s 60 (.idxS (.t 59) (.i 0) 1)⟩, ⟨0, .s 61 (.load (.t 60) 1 false)⟩, ⟨2, .s 62 (.nilc (.t 57))⟩, ⟨2, .s 63 (.fld (.t 62) 3)⟩, ⟨4, .s 64 (.idxA (.t 63) (.t 61) 8 1)⟩, ⟨3, .n (.store (.t 64) (.const (.bool true)) 1)⟩]) (.draw [⟨0, .v 65 1⟩, ⟨0, .v 66 1⟩, ⟨0, .s 67 (.nilc (.t 66))⟩, ⟨0, .s 68 (.fld (.t 67) 11)⟩, ⟨0, .s 69 (.load (.t 68) 1 false)⟩, ⟨0, .s 70 (.fld (.t 4) 4)⟩, ⟨0, .s 71 (.load (.t 70) 1 false)⟩, ⟨0, .s 73 (.fld (.t 2) 0)⟩, ⟨0, .s 74 (.fld (.t 73) 5)⟩, ⟨0, .s 75 (.load (.t 74) 1 false)⟩, ⟨2, .s 72 (.call 274 [(.t 69), (.t 71)])⟩, ⟨2, .s 76 (.call 273 [(.t 72), (.t 75)])⟩, ⟨2, .s 77 (.nilc (.t 65))⟩, ⟨4, .s 78 (.fld (.t 77) 11)⟩, ⟨3, .n (.store (.t 78) (.t 76) 1)⟩])) .skip))))))))))), [], 79⟩ := by kernel_rfl
end Go.Proofs.YtjioiemhgbkbfaaGreatDoor
end

section
namespace Go.Proofs.YtjioiemhgbkbfaaGreatDoor
open Go Go.Tk
end Go.Proofs.YtjioiemhgbkbfaaGreatDoor
end

section
namespace Go.Proofs.YtjioiemhgbkbfaaGreatDoor
open Go Go.Tk
end Go.Proofs.YtjioiemhgbkbfaaGreatDoor
end

section
namespace Go.Proofs.YtjioiemhgbkbfaaGreatDoor
open Go Go.Tk
end Go.Proofs.YtjioiemhgbkbfaaGreatDoor
end

section
namespace Go.Proofs.YtjioiemhgbkbfaaGreatDoor
open Go Go.Tk
theorem ir127 : irOf Tryz.prog Tryz.f127 = some ⟨(.seq (.ops [.s 2 (.mov (.const (.slice none 0 0)))]) (.seq (.seq (.ops [.v 3 0, .s 4 (.leq false (.t 3) (.const (.slice none 0 0)))]) (.cond (.t 4) (.seq (.ops [.s 2 (.mov (.const (.slice none 0 0)))]) .ret) .skip)) (.seq (.ops [.s 5 (.bslice 3 [(.int .i64 0)] 0 []), .v 6 0, .s 7 (.app 61 61 0 (.t 5) (.t 6)), .v 2 7]) .ret))), [.tmp 2], 8⟩ := by kernel_rfl
end Go.Proofs.YtjioiemhgbkbfaaGreatDoor
end

section
namespace Go.Proofs.YtjioiemhgbkbfaaGreatDoor
open Go Go.Tk
end Go.Proofs.YtjioiemhgbkbfaaGreatDoor
end

section

end
