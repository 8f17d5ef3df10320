/- The library's sort, at the program's types. -/
import Derived.Test.YtjefeigdapcleaaRows
import Derived.Test.YtjefeigdapcleaaMU
import Derived.Shelf.SlSortCmp.NoneTotal
namespace Go.Proofs.Ytjefeigdapcleaa
open Go.Shelf Go.RowKit
def lay159_ren : Go.Shelf.Ren := ⟨fun | 6 => 159 | 15 => 177 | 14 => 176 | 28 => 192 | 29 => 193 | 20 => 184 | 21 => 185 | 22 => 186 | 23 => 187 | 24 => 188 | 25 => 189 | 26 => 190 | 27 => 191 | 46 => 202 | 47 => 203 | 48 => 204 | 49 => 205 | 50 => 206 | 57 => 210 | n => n, fun | 22 => 77 | 24 => 93 | 25 => 174 | 3 => 3 | 39 => 191 | 0 => 0 | 53 => 208 | 55 => 210 | 4 => 4 | 46 => 201 | 45 => 200 | 50 => 205 | 5 => 5 | 9 => 9 | 66 => 216 | 70 => 220 | 76 => 224 | 77 => 129 | n => n, fun | n => n⟩
theorem lay159 : Go.Proofs.SlLaysF0.n6 Try.prog lay159_ren := {
  mixed := by kernel_rfl
  f6 := ⟨Try.f159.name, by decide, Try.func159.trans (congrArg some (by kernel_rfl))⟩
  f14 := ⟨Try.f176.name, by decide, Try.func176.trans (congrArg some (by kernel_rfl))⟩
  f15 := Try.func177.trans (congrArg some (by kernel_rfl))
  f20 := ⟨Try.f184.name, by decide, Try.func184.trans (congrArg some (by kernel_rfl))⟩
  f21 := ⟨Try.f185.name, by decide, Try.func185.trans (congrArg some (by kernel_rfl))⟩
  f22 := ⟨Try.f186.name, by decide, Try.func186.trans (congrArg some (by kernel_rfl))⟩
  f23 := ⟨Try.f187.name, by decide, Try.func187.trans (congrArg some (by kernel_rfl))⟩
  f24 := ⟨Try.f188.name, by decide, Try.func188.trans (congrArg some (by kernel_rfl))⟩
  f25 := ⟨Try.f189.name, by decide, Try.func189.trans (congrArg some (by kernel_rfl))⟩
  f26 := ⟨Try.f190.name, by decide, Try.func190.trans (congrArg some (by kernel_rfl))⟩
  f27 := ⟨Try.f191.name, by decide, Try.func191.trans (congrArg some (by kernel_rfl))⟩
  f28 := Try.func192.trans (congrArg some (by kernel_rfl))
  f29 := Try.func193.trans (congrArg some (by kernel_rfl))
  f46 := ⟨Try.f202.name, by decide, Try.func202.trans (congrArg some (by kernel_rfl))⟩
  f47 := Try.func203.trans (congrArg some (by kernel_rfl))
  f48 := Try.func204.trans (congrArg some (by kernel_rfl))
  f49 := ⟨Try.f205.name, by decide, Try.func205.trans (congrArg some (by kernel_rfl))⟩
  f50 := ⟨Try.f206.name, by decide, Try.func206.trans (congrArg some (by kernel_rfl))⟩
  f57 := ⟨Try.f210.name, by decide, Try.func210.trans (congrArg some (by kernel_rfl))⟩
  t0 := Try.underlying0
  a0 := Try.isAgg0
  z0 := Try.sizeOf0
  v0 := Try.zeroValue0
  t3 := Try.underlying3
  a3 := Try.isAgg3
  z3 := Try.sizeOf3
  v3 := Try.zeroValue3
  t4 := Try.underlying4
  a4 := Try.isAgg4
  z4 := Try.sizeOf4
  v4 := Try.zeroValue4
  t5 := Try.underlying5
  a5 := Try.isAgg5
  z5 := Try.sizeOf5
  v5 := Try.zeroValue5
  t9 := Try.underlying9
  a9 := Try.isAgg9
  z9 := Try.sizeOf9
  v9 := Try.zeroValue9
  t22 := Try.underlying77
  a22 := Try.isAgg77
  z22 := Try.sizeOf77
  v22 := Try.zeroValue77
  t25 := Try.underlying174
  a25 := Try.isAgg174
  z25 := Try.sizeOf174
  v25 := Try.zeroValue174
  t39 := Try.underlying191
  a39 := Try.isAgg191
  z39 := Try.sizeOf191
  v39 := Try.zeroValue191
  t45 := Try.underlying200
  a45 := Try.isAgg200
  z45 := Try.sizeOf200
  v45 := Try.zeroValue200
  t46 := Try.underlying201
  a46 := Try.isAgg201
  z46 := Try.sizeOf201
  v46 := Try.zeroValue201
  t50 := Try.underlying205
  a50 := Try.isAgg205
  z50 := Try.sizeOf205
  v50 := Try.zeroValue205
  t53 := Try.underlying208
  a53 := Try.isAgg208
  z53 := Try.sizeOf208
  v53 := Try.zeroValue208
  t55 := Try.underlying210
  a55 := Try.isAgg210
  z55 := Try.sizeOf210
  v55 := Try.zeroValue210
  t66 := Try.underlying216
  a66 := Try.isAgg216
  z66 := Try.sizeOf216
  v66 := Try.zeroValue216
  t70 := Try.underlying220
  a70 := Try.isAgg220
  z70 := Try.sizeOf220
  v70 := Try.zeroValue220
  t76 := Try.underlying224
  a76 := Try.isAgg224
  z76 := Try.sizeOf224
  v76 := Try.zeroValue224
  t77 := Try.underlying129
  a77 := Try.isAgg129
  z77 := Try.sizeOf129
  v77 := Try.zeroValue129 }
theorem lay159a : ∀ w, (isAgg (lay159_ren.t 24)).run Try.prog w = .ok true w := Try.isAgg93
theorem lay159z : ∀ w, (Go.sizeOf (lay159_ren.t 24)).run Try.prog w = .ok 3 w := Try.sizeOf93
end Go.Proofs.Ytjefeigdapcleaa
