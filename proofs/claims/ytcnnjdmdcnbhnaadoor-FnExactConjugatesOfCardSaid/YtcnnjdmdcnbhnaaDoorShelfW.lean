/-
  DERIVED: THE SHELF's CONTRACTS AT THIS DUMP, IN PLAIN WORDS (tools/lay-plain.mjs out of 'YtcnnjdmdcnbhnaaDoorShelfWT.lean', which tools/lay-shelf.mjs wrote): THE SAME DECLARATIONS UNDER THE SAME NAMES: 'import', 'namespace', 'open', 'def', 'theorem' AND NOTHING ELSE: no command of the shelf's: FOR A HAND-IN. Each laying: the table of numbers ('.._ren') and one theorem, a field a fact of the dump's own or the kernel's comparison; each contract: ONE APPLICATION.
-/
import Derived.Shelf.SlGeneric
import Derived.Shelf.SortM.Plain
import Derived.Ground.SlgmProg
import Derived.Ground.NamesProg
import Derived.Test.YtcnnjdmdcnbhnaaDoorProg
namespace Go.Proofs
open Go.Shelf
def Tryd.sortStr_ren : Go.Shelf.Ren := ⟨fun | 6 => 11 | 8 => 18 | 9 => 17 | 19 => 35 | 20 => 36 | 21 => 26 | 22 => 27 | 23 => 28 | 24 => 29 | 25 => 30 | 26 => 31 | 27 => 32 | 28 => 33 | 29 => 34 | 36 => 41 | 31 => 42 | 32 => 43 | 37 => 44 | 38 => 45 | 39 => 46 | 41 => 50 | n => n, fun | 27 => 22 | 29 => 9 | 3 => 3 | 32 => 35 | 26 => 22 | 0 => 0 | 44 => 54 | 46 => 56 | 4 => 4 | 36 => 46 | 35 => 45 | 41 => 51 | 5 => 5 | 9 => 9 | 53 => 61 | 57 => 65 | 63 => 68 | 64 => 69 | n => n, fun | n => n⟩
theorem Tryd.sortStr : Go.Proofs.SlLaysM.n6 Tryd.prog Tryd.sortStr_ren := {
  mixed := by kernel_rfl
  f6 := ⟨Tryd.f11.name, by decide, Tryd.func11.trans (congrArg some (by kernel_rfl))⟩
  f8 := Tryd.func18.trans (congrArg some (by kernel_rfl))
  f9 := ⟨Tryd.f17.name, by decide, Tryd.func17.trans (congrArg some (by kernel_rfl))⟩
  f19 := Tryd.func35.trans (congrArg some (by kernel_rfl))
  f20 := Tryd.func36.trans (congrArg some (by kernel_rfl))
  f21 := ⟨Tryd.f26.name, by decide, Tryd.func26.trans (congrArg some (by kernel_rfl))⟩
  f22 := ⟨Tryd.f27.name, by decide, Tryd.func27.trans (congrArg some (by kernel_rfl))⟩
  f23 := ⟨Tryd.f28.name, by decide, Tryd.func28.trans (congrArg some (by kernel_rfl))⟩
  f24 := ⟨Tryd.f29.name, by decide, Tryd.func29.trans (congrArg some (by kernel_rfl))⟩
  f25 := ⟨Tryd.f30.name, by decide, Tryd.func30.trans (congrArg some (by kernel_rfl))⟩
  f26 := ⟨Tryd.f31.name, by decide, Tryd.func31.trans (congrArg some (by kernel_rfl))⟩
  f27 := ⟨Tryd.f32.name, by decide, Tryd.func32.trans (congrArg some (by kernel_rfl))⟩
  f28 := ⟨Tryd.f33.name, by decide, Tryd.func33.trans (congrArg some (by kernel_rfl))⟩
  f29 := ⟨Tryd.f34.name, by decide, Tryd.func34.trans (congrArg some (by kernel_rfl))⟩
  f31 := Tryd.func42.trans (congrArg some (by kernel_rfl))
  f32 := Tryd.func43.trans (congrArg some (by kernel_rfl))
  f36 := ⟨Tryd.f41.name, by decide, Tryd.func41.trans (congrArg some (by kernel_rfl))⟩
  f37 := ⟨Tryd.f44.name, by decide, Tryd.func44.trans (congrArg some (by kernel_rfl))⟩
  f38 := ⟨Tryd.f45.name, by decide, Tryd.func45.trans (congrArg some (by kernel_rfl))⟩
  f39 := ⟨Tryd.f46.name, by decide, Tryd.func46.trans (congrArg some (by kernel_rfl))⟩
  f41 := ⟨Tryd.f50.name, by decide, Tryd.func50.trans (congrArg some (by kernel_rfl))⟩
  t0 := Tryd.underlying0
  a0 := Tryd.isAgg0
  z0 := Tryd.sizeOf0
  v0 := Tryd.zeroValue0
  t3 := Tryd.underlying3
  a3 := Tryd.isAgg3
  z3 := Tryd.sizeOf3
  v3 := Tryd.zeroValue3
  t4 := Tryd.underlying4
  a4 := Tryd.isAgg4
  z4 := Tryd.sizeOf4
  v4 := Tryd.zeroValue4
  t5 := Tryd.underlying5
  a5 := Tryd.isAgg5
  z5 := Tryd.sizeOf5
  v5 := Tryd.zeroValue5
  t9 := Tryd.underlying9
  a9 := Tryd.isAgg9
  z9 := Tryd.sizeOf9
  v9 := Tryd.zeroValue9
  t26 := Tryd.underlying22
  a26 := Tryd.isAgg22
  z26 := Tryd.sizeOf22
  v26 := Tryd.zeroValue22
  t27 := Tryd.underlying22
  a27 := Tryd.isAgg22
  z27 := Tryd.sizeOf22
  v27 := Tryd.zeroValue22
  t29 := Tryd.underlying9
  a29 := Tryd.isAgg9
  z29 := Tryd.sizeOf9
  v29 := Tryd.zeroValue9
  t32 := Tryd.underlying35
  a32 := Tryd.isAgg35
  z32 := Tryd.sizeOf35
  v32 := Tryd.zeroValue35
  t35 := Tryd.underlying45
  a35 := Tryd.isAgg45
  z35 := Tryd.sizeOf45
  v35 := Tryd.zeroValue45
  t36 := Tryd.underlying46
  a36 := Tryd.isAgg46
  z36 := Tryd.sizeOf46
  v36 := Tryd.zeroValue46
  t41 := Tryd.underlying51
  a41 := Tryd.isAgg51
  z41 := Tryd.sizeOf51
  v41 := Tryd.zeroValue51
  t44 := Tryd.underlying54
  a44 := Tryd.isAgg54
  z44 := Tryd.sizeOf54
  v44 := Tryd.zeroValue54
  t46 := Tryd.underlying56
  a46 := Tryd.isAgg56
  z46 := Tryd.sizeOf56
  v46 := Tryd.zeroValue56
  t53 := Tryd.underlying61
  a53 := Tryd.isAgg61
  z53 := Tryd.sizeOf61
  v53 := Tryd.zeroValue61
  t57 := Tryd.underlying65
  a57 := Tryd.isAgg65
  z57 := Tryd.sizeOf65
  v57 := Tryd.zeroValue65
  t63 := Tryd.underlying68
  a63 := Tryd.isAgg68
  z63 := Tryd.sizeOf68
  v63 := Tryd.zeroValue68
  t64 := Tryd.underlying69
  a64 := Tryd.isAgg69
  z64 := Tryd.sizeOf69
  v64 := Tryd.zeroValue69 }
end Go.Proofs
