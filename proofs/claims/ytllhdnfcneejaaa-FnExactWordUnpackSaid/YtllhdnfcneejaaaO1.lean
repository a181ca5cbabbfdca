/- Words that are owned. -/
import Derived.Test.YtllhdnfcneejaaaD1
set_option linter.unusedVariables false
set_option linter.unusedSimpArgs false
namespace Go.Tk
open Go

def wLen (w : DWord) : Prop := w.slots.length ≤ 1099511627776 ∧ w.pairs.length ≤ 1099511627776 ∧ w.vals.length ≤ 1099511627776

/-- A word that is owned: its slices' blocks. -/
structure oWord (es ep ev : TypeId) (w : DWord) (s p v : Value) (gs gp gv : H) : Prop where
  s : oLs es eI 1 s w.slots gs
  p : oLs ep eP 2 p w.pairs gp
  v : oLs ev eI 1 v w.vals gv
  sp : Dj gs gp
  sv : Dj gs gv
  pv : Dj gp gv
theorem oWord.rd {es ep ev : TypeId} {w : DWord} {s p v : Value} {gs gp gv : H} (o : oWord es ep ev w s p v gs gp gv) : sWord (gs ++ (gp ++ gv)) w s p v := by
  refine ⟨o.s.rd.sub ?_, o.p.rd.sub ?_, o.v.rd.sub ?_⟩
  · exact Sub.left _ _
  · exact Sub.app (Dj_app.2 ⟨o.sp, o.sv⟩) (Sub.left _ _)
  · exact Sub.app (Dj_app.2 ⟨o.sp, o.sv⟩) (Sub.right o.pv)
end Go.Tk
