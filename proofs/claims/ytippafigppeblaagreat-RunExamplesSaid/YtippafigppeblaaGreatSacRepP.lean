/-
  DERIVED: THE SHELF's CONTRACTS AT THIS DUMP, IN PLAIN WORDS (tools/lay-plain.mjs out of 'TryzRep.lean', which tools/lay-shelf.mjs wrote): THE SAME DECLARATIONS UNDER THE SAME NAMES: 'import', 'namespace', 'open', 'def', 'theorem' AND NOTHING ELSE: no command of the shelf's: FOR A HAND-IN. Each laying: the table of numbers ('.._ren') and one theorem, a field a fact of the dump's own or the kernel's comparison; each contract: ONE APPLICATION.
-/
import Derived.Shelf.Strings.Repeat
import Derived.Ground.Names2Prog
import Derived.Test.YtippafigppeblaaGreatProg
namespace Go.Proofs
open Go.Shelf
def Tryz.lays105_ren : Go.Shelf.Ren := ⟨fun | 105 => 276 | 212 => 342 | 99 => 343 | 165 => 344 | 166 => 345 | 170 => 346 | 169 => 347 | 263 => 400 | 264 => 401 | 206 => 402 | 240 => 403 | 241 => 404 | 276 => 442 | 277 => 443 | n => n, fun | 9 => 9 | 3 => 3 | 4 => 4 | 20 => 20 | 0 => 0 | 46 => 230 | 109 => 489 | 5 => 5 | 72 => 494 | 76 => 498 | 51 => 394 | 146 => 539 | 53 => 27 | 148 => 541 | 70 => 492 | 37 => 143 | 75 => 497 | 127 => 543 | 164 => 578 | 80 => 83 | n => n, fun | n => n⟩
theorem Tryz.lays105 : Go.Proofs.Lays.n105 Tryz.prog Tryz.lays105_ren := {
  mixed := by kernel_rfl
  f99 := Tryz.func343.trans (congrArg some (by kernel_rfl))
  f105 := Tryz.func276.trans (congrArg some (by kernel_rfl))
  f165 := Tryz.func344.trans (congrArg some (by kernel_rfl))
  f166 := Tryz.func345.trans (congrArg some (by kernel_rfl))
  f169 := Tryz.func347.trans (congrArg some (by kernel_rfl))
  f170 := Tryz.func346.trans (congrArg some (by kernel_rfl))
  f206 := Tryz.func402.trans (congrArg some (by kernel_rfl))
  f212 := Tryz.func342.trans (congrArg some (by kernel_rfl))
  f240 := Tryz.func403.trans (congrArg some (by kernel_rfl))
  f241 := Tryz.func404.trans (congrArg some (by kernel_rfl))
  f263 := Tryz.func400.trans (congrArg some (by kernel_rfl))
  f264 := Tryz.func401.trans (congrArg some (by kernel_rfl))
  f276 := Tryz.func442.trans (congrArg some (by kernel_rfl))
  f277 := Tryz.func443.trans (congrArg some (by kernel_rfl))
  t0 := Tryz.underlying0
  a0 := Tryz.isAgg0
  z0 := Tryz.sizeOf0
  v0 := Tryz.zeroValue0
  t3 := Tryz.underlying3
  a3 := Tryz.isAgg3
  z3 := Tryz.sizeOf3
  v3 := Tryz.zeroValue3
  t4 := Tryz.underlying4
  a4 := Tryz.isAgg4
  z4 := Tryz.sizeOf4
  v4 := Tryz.zeroValue4
  t5 := Tryz.underlying5
  a5 := Tryz.isAgg5
  z5 := Tryz.sizeOf5
  v5 := Tryz.zeroValue5
  t9 := Tryz.underlying9
  a9 := Tryz.isAgg9
  z9 := Tryz.sizeOf9
  v9 := Tryz.zeroValue9
  t20 := Tryz.underlying20
  a20 := Tryz.isAgg20
  z20 := Tryz.sizeOf20
  v20 := Tryz.zeroValue20
  t37 := Tryz.underlying143
  a37 := Tryz.isAgg143
  z37 := Tryz.sizeOf143
  v37 := Tryz.zeroValue143
  t46 := Tryz.underlying230
  a46 := Tryz.isAgg230
  z46 := Tryz.sizeOf230
  v46 := Tryz.zeroValue230
  t51 := Tryz.underlying394
  a51 := Tryz.isAgg394
  z51 := Tryz.sizeOf394
  v51 := Tryz.zeroValue394
  t53 := Tryz.underlying27
  a53 := Tryz.isAgg27
  z53 := Tryz.sizeOf27
  v53 := Tryz.zeroValue27
  t70 := Tryz.underlying492
  a70 := Tryz.isAgg492
  z70 := Tryz.sizeOf492
  v70 := Tryz.zeroValue492
  t72 := Tryz.underlying494
  a72 := Tryz.isAgg494
  z72 := Tryz.sizeOf494
  v72 := Tryz.zeroValue494
  t75 := Tryz.underlying497
  a75 := Tryz.isAgg497
  z75 := Tryz.sizeOf497
  v75 := Tryz.zeroValue497
  t76 := Tryz.underlying498
  a76 := Tryz.isAgg498
  z76 := Tryz.sizeOf498
  v76 := Tryz.zeroValue498
  t109 := Tryz.underlying489
  a109 := Tryz.isAgg489
  z109 := Tryz.sizeOf489
  v109 := Tryz.zeroValue489
  t127 := Tryz.underlying543
  a127 := Tryz.isAgg543
  z127 := Tryz.sizeOf543
  v127 := Tryz.zeroValue543
  t146 := Tryz.underlying539
  a146 := Tryz.isAgg539
  z146 := Tryz.sizeOf539
  v146 := Tryz.zeroValue539
  t148 := Tryz.underlying541
  a148 := Tryz.isAgg541
  z148 := Tryz.sizeOf541
  v148 := Tryz.zeroValue541
  t164 := Tryz.underlying578
  a164 := Tryz.isAgg578
  z164 := Tryz.sizeOf578
  v164 := Tryz.zeroValue578 }
theorem Tryz.Builder_Extra_105 : Builder.Extra Tryz.prog Tryz.lays105_ren := {
  sizeBuilder := by kernel_rfl
  liesBuilder := by kernel_rfl
  t5 := Tryz.underlying5
  a5 := Tryz.isAgg5
  z5 := Tryz.sizeOf5
  v5 := Tryz.zeroValue5
  infoByte := by kernel_rfl
  cellsByte := by kernel_rfl
  sizeByte := by kernel_rfl
  neB5 := by decide }
open Go.RowKit Go.Lib in
/-- **strings.Repeat: count ≥ 0, the result within one allocation: count copies of s.** (LAID: no walk: one application.) -/
theorem Tryz.strings_Repeat (s : ByteArray) (c : Nat) (w : World) (hc : c ≤ 9223372036854775807) (hlen : s.size * c ≤ 140737488355328) :
    Calls Tryz.prog 276 #[.string s, .int .i64 c] w fun e w' => e = .returned (.string ⟨(Lib.repeatL s.data.toList c).toArray⟩) ∧ Below w.heap.size w w' := Any.strings_Repeat Tryz.lays105 Tryz.Builder_Extra_105 s c w hc hlen
end Go.Proofs
