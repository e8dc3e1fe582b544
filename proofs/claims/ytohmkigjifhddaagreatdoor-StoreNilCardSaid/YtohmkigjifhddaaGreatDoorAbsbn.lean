/- A part of a proof about Go functions of this program: an evaluator with a memory of its own, and the proof that what it finds the model finds (AZ, RP, T3). No conditions beyond those that each theorem names. -/
import Derived.Test.YtohmkigjifhddaaGreatDoorAbsbb
import Derived.Test.YtohmkigjifhddaaGreatDoorAbsbc
import Derived.Test.YtohmkigjifhddaaGreatDoorAbsbd
import Derived.Test.YtohmkigjifhddaaGreatDoorAbsbe
import Derived.Test.YtohmkigjifhddaaGreatDoorAbsbf
import Derived.Test.YtohmkigjifhddaaGreatDoorAbsbg
import Derived.Test.YtohmkigjifhddaaGreatDoorAbsbh
import Derived.Test.YtohmkigjifhddaaGreatDoorAbsbi
import Derived.Test.YtohmkigjifhddaaGreatDoorAbsbj
import Derived.Test.YtohmkigjifhddaaGreatDoorAbsbk
import Derived.Test.YtohmkigjifhddaaGreatDoorAbsbl
import Derived.Test.YtohmkigjifhddaaGreatDoorAbsbm
import Derived.Test.YtohmkigjifhddaaGreatDoorAbsan
import Derived.Shelf.Strings.Repeat
import Derived.Test.YtohmkigjifhddaaGreatDoorProg
import Derived.Test.YtohmkigjifhddaaGreatDoorAbsaz
set_option linter.all false
set_option maxRecDepth 100000
set_option autoImplicit false
set_option linter.all false
namespace Go.Abs
theorem a0_ok {N : Nat} (hP : RepIs Go.Proofs.Tryz.prog 69) : Kn N a0 := Kn.of hP Knows.nil a0_ran
theorem a1_ok {N : Nat} (hP : RepIs Go.Proofs.Tryz.prog 69) : Kn N a1 := Kn.of hP Knows.nil a1_ran
theorem a2_ok {N : Nat} (hP : RepIs Go.Proofs.Tryz.prog 69) : Kn N a2 := Kn.of hP Knows.nil a2_ran
theorem a3_ok {N : Nat} (hP : RepIs Go.Proofs.Tryz.prog 69) : Kn N a3 := Kn.of hP Knows.nil a3_ran
theorem a4_ok {N : Nat} (hP : RepIs Go.Proofs.Tryz.prog 69) : Kn N a4 := Kn.of hP Knows.nil a4_ran
theorem a5_ok {N : Nat} (hP : RepIs Go.Proofs.Tryz.prog 69) : Kn N a5 := Kn.of hP Knows.nil a5_ran
theorem a6_ok {N : Nat} (hP : RepIs Go.Proofs.Tryz.prog 69) : Kn N a6 := Kn.of hP Knows.nil a6_ran
theorem a7_ok {N : Nat} (hP : RepIs Go.Proofs.Tryz.prog 69) : Kn N a7 := Kn.of hP (Knows.cons (a6_ok hP) Knows.nil) a7_ran
theorem a8_ok {N : Nat} (hP : RepIs Go.Proofs.Tryz.prog 69) : Kn N a8 := Kn.of hP (Knows.cons (a7_ok hP) Knows.nil) a8_ran
theorem a9_ok {N : Nat} (hP : RepIs Go.Proofs.Tryz.prog 69) : Kn N a9 := Kn.of hP Knows.nil a9_ran
theorem a10_ok {N : Nat} (hP : RepIs Go.Proofs.Tryz.prog 69) : Kn N a10 := Kn.of hP Knows.nil a10_ran
theorem a11_ok {N : Nat} (hP : RepIs Go.Proofs.Tryz.prog 69) : Kn N a11 := Kn.of hP (Knows.cons (a0_ok hP) (Knows.cons (a1_ok hP) (Knows.cons (a2_ok hP) (Knows.cons (a3_ok hP) (Knows.cons (a4_ok hP) (Knows.cons (a5_ok hP) (Knows.cons (a8_ok hP) (Knows.cons (a9_ok hP) (Knows.cons (a10_ok hP) Knows.nil))))))))) a11_ran
theorem a12_ok {N : Nat} (hP : RepIs Go.Proofs.Tryz.prog 69) : Kn N a12 := Kn.of hP (Knows.cons (a6_ok hP) (Knows.cons (a8_ok hP) Knows.nil)) a12_ran
theorem a13_ok {N : Nat} (hP : RepIs Go.Proofs.Tryz.prog 69) : Kn N a13 := Kn.of hP Knows.nil a13_ran
theorem a14_ok {N : Nat} (hP : RepIs Go.Proofs.Tryz.prog 69) : Kn N a14 := Kn.of hP (Knows.cons (a10_ok hP) (Knows.cons (a3_ok hP) (Knows.cons (a6_ok hP) (Knows.cons (a12_ok hP) (Knows.cons (a13_ok hP) (Knows.cons (a9_ok hP) Knows.nil)))))) a14_ran
theorem a15_ok {N : Nat} (hP : RepIs Go.Proofs.Tryz.prog 69) : Kn N a15 := Kn.of hP (Knows.cons (a11_ok hP) (Knows.cons (a10_ok hP) (Knows.cons (a14_ok hP) Knows.nil))) a15_ran
end Go.Abs

/- strings.Repeat of one byte, by the kit's contract, laid at this program in plain words (no condition). -/
set_option autoImplicit false
namespace Go.Proofs
open Go.Shelf Go.RowKit
def Tryz.laysRepeat_ren : Go.Shelf.Ren := ⟨fun | 105 => 69 | 212 => 143 | 99 => 144 | 165 => 145 | 166 => 146 | 170 => 147 | 169 => 148 | 263 => 212 | 264 => 213 | 206 => 214 | 240 => 215 | 241 => 216 | 276 => 259 | 277 => 260 | n => n, fun | 9 => 9 | 3 => 3 | 4 => 4 | 20 => 20 | 0 => 0 | 46 => 104 | 109 => 206 | 5 => 5 | 72 => 211 | 76 => 215 | 51 => 133 | 146 => 294 | 53 => 29 | 148 => 296 | 70 => 209 | 37 => 36 | 75 => 214 | 127 => 298 | 164 => 331 | 80 => 217 | n => n, fun | n => n⟩
theorem Tryz.laysRepeat : Go.Proofs.Lays.n105 Tryz.prog Tryz.laysRepeat_ren := {
  mixed := by kernel_rfl
  f99 := Tryz.func144.trans (congrArg some (by kernel_rfl))
  f105 := Tryz.func69.trans (congrArg some (by kernel_rfl))
  f165 := Tryz.func145.trans (congrArg some (by kernel_rfl))
  f166 := Tryz.func146.trans (congrArg some (by kernel_rfl))
  f169 := Tryz.func148.trans (congrArg some (by kernel_rfl))
  f170 := Tryz.func147.trans (congrArg some (by kernel_rfl))
  f206 := Tryz.func214.trans (congrArg some (by kernel_rfl))
  f212 := Tryz.func143.trans (congrArg some (by kernel_rfl))
  f240 := Tryz.func215.trans (congrArg some (by kernel_rfl))
  f241 := Tryz.func216.trans (congrArg some (by kernel_rfl))
  f263 := Tryz.func212.trans (congrArg some (by kernel_rfl))
  f264 := Tryz.func213.trans (congrArg some (by kernel_rfl))
  f276 := Tryz.func259.trans (congrArg some (by kernel_rfl))
  f277 := Tryz.func260.trans (congrArg some (by kernel_rfl))
  t0 := Tryz.underlying0
  a0 := Tryz.isAgg0
  z0 := Tryz.sizeOf0
  v0 := Tryz.zeroValue0
  t3 := Tryz.underlying3
  a3 := Tryz.isAgg3
  z3 := Tryz.sizeOf3
  v3 := Tryz.zeroValue3
  t4 := Tryz.underlying4
  a4 := Tryz.isAgg4
  z4 := Tryz.sizeOf4
  v4 := Tryz.zeroValue4
  t5 := Tryz.underlying5
  a5 := Tryz.isAgg5
  z5 := Tryz.sizeOf5
  v5 := Tryz.zeroValue5
  t9 := Tryz.underlying9
  a9 := Tryz.isAgg9
  z9 := Tryz.sizeOf9
  v9 := Tryz.zeroValue9
  t20 := Tryz.underlying20
  a20 := Tryz.isAgg20
  z20 := Tryz.sizeOf20
  v20 := Tryz.zeroValue20
  t37 := Tryz.underlying36
  a37 := Tryz.isAgg36
  z37 := Tryz.sizeOf36
  v37 := Tryz.zeroValue36
  t46 := Tryz.underlying104
  a46 := Tryz.isAgg104
  z46 := Tryz.sizeOf104
  v46 := Tryz.zeroValue104
  t51 := Tryz.underlying133
  a51 := Tryz.isAgg133
  z51 := Tryz.sizeOf133
  v51 := Tryz.zeroValue133
  t53 := Tryz.underlying29
  a53 := Tryz.isAgg29
  z53 := Tryz.sizeOf29
  v53 := Tryz.zeroValue29
  t70 := Tryz.underlying209
  a70 := Tryz.isAgg209
  z70 := Tryz.sizeOf209
  v70 := Tryz.zeroValue209
  t72 := Tryz.underlying211
  a72 := Tryz.isAgg211
  z72 := Tryz.sizeOf211
  v72 := Tryz.zeroValue211
  t75 := Tryz.underlying214
  a75 := Tryz.isAgg214
  z75 := Tryz.sizeOf214
  v75 := Tryz.zeroValue214
  t76 := Tryz.underlying215
  a76 := Tryz.isAgg215
  z76 := Tryz.sizeOf215
  v76 := Tryz.zeroValue215
  t109 := Tryz.underlying206
  a109 := Tryz.isAgg206
  z109 := Tryz.sizeOf206
  v109 := Tryz.zeroValue206
  t127 := Tryz.underlying298
  a127 := Tryz.isAgg298
  z127 := Tryz.sizeOf298
  v127 := Tryz.zeroValue298
  t146 := Tryz.underlying294
  a146 := Tryz.isAgg294
  z146 := Tryz.sizeOf294
  v146 := Tryz.zeroValue294
  t148 := Tryz.underlying296
  a148 := Tryz.isAgg296
  z148 := Tryz.sizeOf296
  v148 := Tryz.zeroValue296
  t164 := Tryz.underlying331
  a164 := Tryz.isAgg331
  z164 := Tryz.sizeOf331
  v164 := Tryz.zeroValue331 }
theorem Tryz.repeatExtra : Builder.Extra Tryz.prog Tryz.laysRepeat_ren := {
  sizeBuilder := by kernel_rfl
  liesBuilder := by kernel_rfl
  t5 := Tryz.laysRepeat.t5
  a5 := Tryz.laysRepeat.a5
  z5 := Tryz.laysRepeat.z5
  v5 := Tryz.laysRepeat.v5
  infoByte := by kernel_rfl
  cellsByte := by kernel_rfl
  sizeByte := by kernel_rfl
  neB5 := by decide }
theorem Tryz.fRepeat : Tryz.laysRepeat_ren.f 105 = 69 := by kernel_rfl
theorem Tryz.repeat_is : Go.Abs.RepIs Tryz.prog 69 := by
  intro b c w hc
  have h := Any.strings_Repeat Tryz.laysRepeat Tryz.repeatExtra ⟨#[b]⟩ c w (by omega) (by show 1 * c ≤ _; omega)
  rw [Tryz.fRepeat] at h
  refine h.mono fun e w' ⟨he, hw⟩ => ⟨?_, hw⟩
  rw [he, show (⟨#[b]⟩ : ByteArray).data.toList = List.replicate 1 b from rfl, Lib.repeatL_replicate, Nat.mul_one]
end Go.Proofs

set_option maxRecDepth 100000
set_option autoImplicit false
namespace Go.Proofs.YtohmkigjifhddaaGreatDoor.StoreNil
theorem alive : Alive := fun N h => (Go.Abs.a15_ok (N := N) Tryz.repeat_is) [] h ⟨.b true, h⟩ rfl
end Go.Proofs.YtohmkigjifhddaaGreatDoor.StoreNil
