/- alive29: the tables of known calls. · alive29: the tables hold. -/
import Derived.Test.YtfmcbemddhaakaaGreatAl29F0
import Derived.Test.YtfmcbemddhaakaaGreatAl29F1
import Derived.Test.YtfmcbemddhaakaaGreatAl29F2
import Derived.Test.YtfmcbemddhaakaaGreatAl29F3
import Derived.Test.YtfmcbemddhaakaaGreatAl29F4
import Derived.Test.YtfmcbemddhaakaaGreatAmG
set_option linter.unusedSimpArgs false
set_option linter.unusedVariables false
set_option linter.constructorNameAsVariable false
namespace Go.Am
open Go Go.Proofs
set_option maxRecDepth 100000
noncomputable def hMask : Hook :=
  hFlat mask0a mask0v <|
  hFlat mask1a mask1v <|
  hFlat mask2a mask2v <|
  hNo
noncomputable def hDouble : Hook :=
  hFlat double0a double0v <|
  hFlat double1a double1v <|
  hFlat double2a double2v <|
  hFlat double3a double3v <|
  hFlat double4a double4v <|
  hFlat double5a double5v <|
  hFlat double6a double6v <|
  hFlat double7a double7v <|
  hFlat double8a double8v <|
  hFlat double9a double9v <|
  hNo
noncomputable def hNew : Hook :=
  hFlat new0a new0v <|
  hFlat new1a new1v <|
  hFlat new2a new2v <|
  hFlat new3a new3v <|
  hFlat new4a new4v <|
  hNo
noncomputable def hEnc : Hook :=
  hFlat enc0a enc0v <|
  hFlat enc1a enc1v <|
  hFlat enc2a enc2v <|
  hFlat enc3a enc3v <|
  hFlat enc4a enc4v <|
  hFlat enc5a enc5v <|
  hFlat enc6a enc6v <|
  hFlat enc7a enc7v <|
  hFlat enc8a enc8v <|
  hFlat enc9a enc9v <|
  hFlat enc10a enc10v <|
  hFlat enc11a enc11v <|
  hFlat enc12a enc12v <|
  hFlat enc13a enc13v <|
  hFlat enc14a enc14v <|
  hFlat enc15a enc15v <|
  hFlat enc16a enc16v <|
  hFlat enc17a enc17v <|
  hFlat enc18a enc18v <|
  hFlat enc19a enc19v <|
  hFlat enc20a enc20v <|
  hFlat enc21a enc21v <|
  hFlat enc22a enc22v <|
  hFlat enc23a enc23v <|
  hFlat enc24a enc24v <|
  hFlat enc25a enc25v <|
  hFlat enc26a enc26v <|
  hFlat enc27a enc27v <|
  hNo
noncomputable def hk29b : Tr Hook := putH (putH (putH (putH (putH .lf 267 hAppendSeq) 395 hNew) 421 hEnc) 420 hDouble) 102 hMask
noncomputable def hk29 : Tr Hook := putH hk29b 230 (hTry (callA Tryz.prog fns hk29b 100000 100))
end Go.Am
namespace Go.Am
open Go Go.Proofs
set_option maxRecDepth 100000
theorem hMask_ok (base : Nat) : CallOk Tryz.prog base 102 hMask :=
  hFlat_ok (g := callA Tryz.prog fns .lf 100000 100 102) (n := 0) (fun b => leaf_ok b 102) (
  hFlat_ok (g := callA Tryz.prog fns .lf 100000 100 102) (n := 0) (fun b => leaf_ok b 102) (
  hFlat_ok (g := callA Tryz.prog fns .lf 100000 100 102) (n := 0) (fun b => leaf_ok b 102) (
  hNo_ok 102
  ) mask2_ok
  ) mask1_ok
  ) mask0_ok
theorem hDouble_ok (base : Nat) : CallOk Tryz.prog base 420 hDouble :=
  hFlat_ok (g := callA Tryz.prog fns .lf 100000 100 420) (n := 0) (fun b => leaf_ok b 420) (
  hFlat_ok (g := callA Tryz.prog fns .lf 100000 100 420) (n := 0) (fun b => leaf_ok b 420) (
  hFlat_ok (g := callA Tryz.prog fns .lf 100000 100 420) (n := 0) (fun b => leaf_ok b 420) (
  hFlat_ok (g := callA Tryz.prog fns .lf 100000 100 420) (n := 0) (fun b => leaf_ok b 420) (
  hFlat_ok (g := callA Tryz.prog fns .lf 100000 100 420) (n := 0) (fun b => leaf_ok b 420) (
  hFlat_ok (g := callA Tryz.prog fns .lf 100000 100 420) (n := 0) (fun b => leaf_ok b 420) (
  hFlat_ok (g := callA Tryz.prog fns .lf 100000 100 420) (n := 0) (fun b => leaf_ok b 420) (
  hFlat_ok (g := callA Tryz.prog fns .lf 100000 100 420) (n := 0) (fun b => leaf_ok b 420) (
  hFlat_ok (g := callA Tryz.prog fns .lf 100000 100 420) (n := 0) (fun b => leaf_ok b 420) (
  hFlat_ok (g := callA Tryz.prog fns .lf 100000 100 420) (n := 0) (fun b => leaf_ok b 420) (
  hNo_ok 420
  ) double9_ok
  ) double8_ok
  ) double7_ok
  ) double6_ok
  ) double5_ok
  ) double4_ok
  ) double3_ok
  ) double2_ok
  ) double1_ok
  ) double0_ok
theorem hNew_ok (base : Nat) : CallOk Tryz.prog base 395 hNew :=
  hFlat_ok (g := callA Tryz.prog fns .lf 100000 100 395) (n := 0) (fun b => leaf_ok b 395) (
  hFlat_ok (g := callA Tryz.prog fns .lf 100000 100 395) (n := 0) (fun b => leaf_ok b 395) (
  hFlat_ok (g := callA Tryz.prog fns .lf 100000 100 395) (n := 0) (fun b => leaf_ok b 395) (
  hFlat_ok (g := callA Tryz.prog fns .lf 100000 100 395) (n := 0) (fun b => leaf_ok b 395) (
  hFlat_ok (g := callA Tryz.prog fns .lf 100000 100 395) (n := 0) (fun b => leaf_ok b 395) (
  hNo_ok 395
  ) new4_ok
  ) new3_ok
  ) new2_ok
  ) new1_ok
  ) new0_ok
theorem hEnc_ok (base : Nat) : CallOk Tryz.prog base 421 hEnc :=
  hFlat_ok (g := callA Tryz.prog fns .lf 100000 100 421) (n := 0) (fun b => leaf_ok b 421) (
  hFlat_ok (g := callA Tryz.prog fns .lf 100000 100 421) (n := 0) (fun b => leaf_ok b 421) (
  hFlat_ok (g := callA Tryz.prog fns .lf 100000 100 421) (n := 0) (fun b => leaf_ok b 421) (
  hFlat_ok (g := callA Tryz.prog fns .lf 100000 100 421) (n := 0) (fun b => leaf_ok b 421) (
  hFlat_ok (g := callA Tryz.prog fns .lf 100000 100 421) (n := 0) (fun b => leaf_ok b 421) (
  hFlat_ok (g := callA Tryz.prog fns .lf 100000 100 421) (n := 0) (fun b => leaf_ok b 421) (
  hFlat_ok (g := callA Tryz.prog fns .lf 100000 100 421) (n := 0) (fun b => leaf_ok b 421) (
  hFlat_ok (g := callA Tryz.prog fns .lf 100000 100 421) (n := 0) (fun b => leaf_ok b 421) (
  hFlat_ok (g := callA Tryz.prog fns .lf 100000 100 421) (n := 0) (fun b => leaf_ok b 421) (
  hFlat_ok (g := callA Tryz.prog fns .lf 100000 100 421) (n := 0) (fun b => leaf_ok b 421) (
  hFlat_ok (g := callA Tryz.prog fns .lf 100000 100 421) (n := 0) (fun b => leaf_ok b 421) (
  hFlat_ok (g := callA Tryz.prog fns .lf 100000 100 421) (n := 0) (fun b => leaf_ok b 421) (
  hFlat_ok (g := callA Tryz.prog fns .lf 100000 100 421) (n := 0) (fun b => leaf_ok b 421) (
  hFlat_ok (g := callA Tryz.prog fns .lf 100000 100 421) (n := 0) (fun b => leaf_ok b 421) (
  hFlat_ok (g := callA Tryz.prog fns .lf 100000 100 421) (n := 0) (fun b => leaf_ok b 421) (
  hFlat_ok (g := callA Tryz.prog fns .lf 100000 100 421) (n := 0) (fun b => leaf_ok b 421) (
  hFlat_ok (g := callA Tryz.prog fns .lf 100000 100 421) (n := 0) (fun b => leaf_ok b 421) (
  hFlat_ok (g := callA Tryz.prog fns .lf 100000 100 421) (n := 0) (fun b => leaf_ok b 421) (
  hFlat_ok (g := callA Tryz.prog fns .lf 100000 100 421) (n := 0) (fun b => leaf_ok b 421) (
  hFlat_ok (g := callA Tryz.prog fns .lf 100000 100 421) (n := 0) (fun b => leaf_ok b 421) (
  hFlat_ok (g := callA Tryz.prog fns .lf 100000 100 421) (n := 0) (fun b => leaf_ok b 421) (
  hFlat_ok (g := callA Tryz.prog fns .lf 100000 100 421) (n := 0) (fun b => leaf_ok b 421) (
  hFlat_ok (g := callA Tryz.prog fns .lf 100000 100 421) (n := 0) (fun b => leaf_ok b 421) (
  hFlat_ok (g := callA Tryz.prog fns .lf 100000 100 421) (n := 0) (fun b => leaf_ok b 421) (
  hFlat_ok (g := callA Tryz.prog fns .lf 100000 100 421) (n := 0) (fun b => leaf_ok b 421) (
  hFlat_ok (g := callA Tryz.prog fns .lf 100000 100 421) (n := 0) (fun b => leaf_ok b 421) (
  hFlat_ok (g := callA Tryz.prog fns .lf 100000 100 421) (n := 0) (fun b => leaf_ok b 421) (
  hFlat_ok (g := callA Tryz.prog fns .lf 100000 100 421) (n := 0) (fun b => leaf_ok b 421) (
  hNo_ok 421
  ) enc27_ok
  ) enc26_ok
  ) enc25_ok
  ) enc24_ok
  ) enc23_ok
  ) enc22_ok
  ) enc21_ok
  ) enc20_ok
  ) enc19_ok
  ) enc18_ok
  ) enc17_ok
  ) enc16_ok
  ) enc15_ok
  ) enc14_ok
  ) enc13_ok
  ) enc12_ok
  ) enc11_ok
  ) enc10_ok
  ) enc9_ok
  ) enc8_ok
  ) enc7_ok
  ) enc6_ok
  ) enc5_ok
  ) enc4_ok
  ) enc3_ok
  ) enc2_ok
  ) enc1_ok
  ) enc0_ok
end Go.Am
