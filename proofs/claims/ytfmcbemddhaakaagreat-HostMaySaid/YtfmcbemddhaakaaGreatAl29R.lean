/- alive29: the run. -/
import Derived.Test.YtfmcbemddhaakaaGreatAl29C0
import Derived.Test.YtfmcbemddhaakaaGreatAl29C1
import Derived.Test.YtfmcbemddhaakaaGreatAl29C2
import Derived.Test.YtfmcbemddhaakaaGreatAl29C3
import Derived.Test.YtfmcbemddhaakaaGreatAl29C4
import Derived.Test.YtfmcbemddhaakaaGreatAl29C5
set_option linter.unusedSimpArgs false
set_option linter.unusedVariables false
set_option linter.constructorNameAsVariable false
namespace Go.Am
open Go Go.Proofs
set_option maxRecDepth 100000
noncomputable def hCutArrive : Hook :=
  hAt cut1a cut1m cut1v cut1n <|
  hAt cut2a cut2m cut2v cut2n <|
  hAt cut3a cut3m cut3v cut3n <|
  hAt cut5a cut5m cut5v cut5n <|
  hNo
noncomputable def hCutConnect : Hook :=
  hAt cut0a cut0m cut0v cut0n <|
  hNo
noncomputable def hCutWrite : Hook :=
  hAt cut4a cut4m cut4v cut4n <|
  hNo
noncomputable def hkC29 : Tr Hook := (putH (putH (putH hk29 58 hCutArrive) 38 hCutConnect) 41 hCutWrite)
theorem alive29_run : isTrueR (callA Tryz.prog fns hkC29 100000 100 7 [] (.mk .lf 0)) = true := by kernel_rfl
end Go.Am
