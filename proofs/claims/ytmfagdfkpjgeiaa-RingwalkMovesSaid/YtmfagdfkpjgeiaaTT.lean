/- The library's sort as it lies at this program, in plain words. -/
import Derived.Test.YtmfagdfkpjgeiaaProg
import Derived.Shelf.SlLaysF0
import Derived.Ground.SlsfProg
import Derived.WalkKit
import Derived.Shelf.SlLaysE
import Derived.Shelf.SlGeneric
import Derived.Ground.SlgnProg
namespace Go.Proofs
open Go.Shelf
def Try.sortL26_ren:Go.Shelf.Ren:=⟨fun|6=>26|15=>48|14=>47|28=>71|29=>72|20=>63|21=>64|22=>65|23=>66|24=>67|25=>68|26=>69|27=>70|46=>82|47=>83|48=>84|49=>85|50=>86|57=>87|n=>n,fun|22=>51|24=>63|25=>65|3=>3|39=>92|0=>0|53=>115|55=>117|4=>4|46=>108|45=>107|50=>112|5=>5|9=>9|66=>128|70=>132|76=>134|77=>135|n=>n,fun|n=>n⟩
theorem Try.sortL26:Go.Proofs.SlLaysF0.n6 Try.prog Try.sortL26_ren:={
  mixed:=by kernel_rfl
  f6:=⟨Try.f26.name,by decide,Try.func26.trans (congrArg some (by kernel_rfl))⟩
  f14:=⟨Try.f47.name,by decide,Try.func47.trans (congrArg some (by kernel_rfl))⟩
  f15:=Try.func48.trans (congrArg some (by kernel_rfl))
  f20:=⟨Try.f63.name,by decide,Try.func63.trans (congrArg some (by kernel_rfl))⟩
  f21:=⟨Try.f64.name,by decide,Try.func64.trans (congrArg some (by kernel_rfl))⟩
  f22:=⟨Try.f65.name,by decide,Try.func65.trans (congrArg some (by kernel_rfl))⟩
  f23:=⟨Try.f66.name,by decide,Try.func66.trans (congrArg some (by kernel_rfl))⟩
  f24:=⟨Try.f67.name,by decide,Try.func67.trans (congrArg some (by kernel_rfl))⟩
  f25:=⟨Try.f68.name,by decide,Try.func68.trans (congrArg some (by kernel_rfl))⟩
  f26:=⟨Try.f69.name,by decide,Try.func69.trans (congrArg some (by kernel_rfl))⟩
  f27:=⟨Try.f70.name,by decide,Try.func70.trans (congrArg some (by kernel_rfl))⟩
  f28:=Try.func71.trans (congrArg some (by kernel_rfl))
  f29:=Try.func72.trans (congrArg some (by kernel_rfl))
  f46:=⟨Try.f82.name,by decide,Try.func82.trans (congrArg some (by kernel_rfl))⟩
  f47:=Try.func83.trans (congrArg some (by kernel_rfl))
  f48:=Try.func84.trans (congrArg some (by kernel_rfl))
  f49:=⟨Try.f85.name,by decide,Try.func85.trans (congrArg some (by kernel_rfl))⟩
  f50:=⟨Try.f86.name,by decide,Try.func86.trans (congrArg some (by kernel_rfl))⟩
  f57:=⟨Try.f87.name,by decide,Try.func87.trans (congrArg some (by kernel_rfl))⟩
  t0:=Try.underlying0
  a0:=Try.isAgg0
  z0:=Try.sizeOf0
  v0:=Try.zeroValue0
  t3:=Try.underlying3
  a3:=Try.isAgg3
  z3:=Try.sizeOf3
  v3:=Try.zeroValue3
  t4:=Try.underlying4
  a4:=Try.isAgg4
  z4:=Try.sizeOf4
  v4:=Try.zeroValue4
  t5:=Try.underlying5
  a5:=Try.isAgg5
  z5:=Try.sizeOf5
  v5:=Try.zeroValue5
  t9:=Try.underlying9
  a9:=Try.isAgg9
  z9:=Try.sizeOf9
  v9:=Try.zeroValue9
  t22:=Try.underlying51
  a22:=Try.isAgg51
  z22:=Try.sizeOf51
  v22:=Try.zeroValue51
  t25:=Try.underlying65
  a25:=Try.isAgg65
  z25:=Try.sizeOf65
  v25:=Try.zeroValue65
  t39:=Try.underlying92
  a39:=Try.isAgg92
  z39:=Try.sizeOf92
  v39:=Try.zeroValue92
  t45:=Try.underlying107
  a45:=Try.isAgg107
  z45:=Try.sizeOf107
  v45:=Try.zeroValue107
  t46:=Try.underlying108
  a46:=Try.isAgg108
  z46:=Try.sizeOf108
  v46:=Try.zeroValue108
  t50:=Try.underlying112
  a50:=Try.isAgg112
  z50:=Try.sizeOf112
  v50:=Try.zeroValue112
  t53:=Try.underlying115
  a53:=Try.isAgg115
  z53:=Try.sizeOf115
  v53:=Try.zeroValue115
  t55:=Try.underlying117
  a55:=Try.isAgg117
  z55:=Try.sizeOf117
  v55:=Try.zeroValue117
  t66:=Try.underlying128
  a66:=Try.isAgg128
  z66:=Try.sizeOf128
  v66:=Try.zeroValue128
  t70:=Try.underlying132
  a70:=Try.isAgg132
  z70:=Try.sizeOf132
  v70:=Try.zeroValue132
  t76:=Try.underlying134
  a76:=Try.isAgg134
  z76:=Try.sizeOf134
  v76:=Try.zeroValue134
  t77:=Try.underlying135
  a77:=Try.isAgg135
  z77:=Try.sizeOf135
  v77:=Try.zeroValue135 }
end Go.Proofs
namespace Go.Proofs
open Go.Shelf
def Try.del74_ren:Go.Shelf.Ren:=⟨fun|45=>74|n=>n,fun|22=>66|23=>89|3=>3|4=>4|0=>0|n=>n,fun|n=>n⟩
theorem Try.del74:Go.Proofs.SlLaysE.n45 Try.prog Try.del74_ren:={
  mixed:=by kernel_rfl
  f45:=⟨Try.f74.name,by decide,Try.func74.trans (congrArg some (by kernel_rfl))⟩
  t0:=Try.underlying0
  a0:=Try.isAgg0
  z0:=Try.sizeOf0
  v0:=Try.zeroValue0
  t3:=Try.underlying3
  a3:=Try.isAgg3
  z3:=Try.sizeOf3
  v3:=Try.zeroValue3
  t4:=Try.underlying4
  a4:=Try.isAgg4
  z4:=Try.sizeOf4
  v4:=Try.zeroValue4
  t22:=Try.underlying66
  a22:=Try.isAgg66
  z22:=Try.sizeOf66
  v22:=Try.zeroValue66
  a23:=Try.isAgg89
  z23:=Try.sizeOf89 }
end Go.Proofs
