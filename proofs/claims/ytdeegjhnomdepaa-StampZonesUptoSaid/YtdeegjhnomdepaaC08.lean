/- The brief form of functions. -/
import Derived.Test.YtdeegjhnomdepaaProg
import Derived.Test.YtdeegjhnomdepaaWB
set_option linter.unusedVariables false
set_option maxRecDepth 100000
namespace Go.Proofs.Ytdeegjhnomdepaa
open Go.Wl
theorem mx : Try.prog.follows .mixedOrders = true := by kernel_rfl
theorem fd_23_6 : fd Try.prog 23 6 = some (6, 1, false) := by kernel_rfl
theorem ag_3 : ag Try.prog 3 = some (1, false) := by kernel_rfl
theorem ag_23 : ag Try.prog 23 = some (7, true) := by kernel_rfl
theorem tk_2 : tk Try.prog 2 = .other := by kernel_rfl
theorem tk_4 : tk Try.prog 4 = .bool := by kernel_rfl
theorem tk_23 : tk Try.prog 23 = .other := by kernel_rfl
theorem sq_23 : sq Try.prog 23 = some [.i, .i, .i, .i, .i, .i, .i] := by kernel_rfl
theorem fd_23_0 : fd Try.prog 23 0 = some (0, 1, false) := by kernel_rfl
theorem fd_23_1 : fd Try.prog 23 1 = some (1, 1, false) := by kernel_rfl
theorem fd_23_2 : fd Try.prog 23 2 = some (2, 1, false) := by kernel_rfl
theorem fd_23_3 : fd Try.prog 23 3 = some (3, 1, false) := by kernel_rfl
theorem fd_23_4 : fd Try.prog 23 4 = some (4, 1, false) := by kernel_rfl
theorem fd_23_5 : fd Try.prog 23 5 = some (5, 1, false) := by kernel_rfl
theorem zv_23 : zv Try.prog 23 = some [.d (.int .i64 0), .d (.int .i64 0), .d (.int .i64 0), .d (.int .i64 0), .d (.int .i64 0), .d (.int .i64 0), .d (.int .i64 0)] := by kernel_rfl
theorem tk_3 : tk Try.prog 3 = .other := by kernel_rfl
/-- cubby/cubbylaw08.StampOrder -/
abbrev order_r0 : List Sop := [⟨some 2, (.box 23 (.tmp 0)), none⟩,
  ⟨some 3, (.box 23 (.tmp 1)), none⟩,
  ⟨some 4, (.assign (.const (.bool false))), none⟩]
abbrev order_r1 : List Sop := [⟨some 6, (.fieldAddr 23 (.tmp 2) 6), none⟩,
  ⟨some 7, (.load 3 (.tmp 6)), none⟩,
  ⟨some 8, (.fieldAddr 23 (.tmp 3) 6), none⟩,
  ⟨none, (.store 3 (.tmp 8) (.tmp 7)), none⟩]
abbrev order_r2 : List Sop := [⟨some 9, (.call { callee := (.value (.func 9)), args := #[], argTypes := #[] }), none⟩,
  ⟨some 10, (.unOp .not 4 (.tmp 9)), none⟩,
  ⟨some 11, (.move (.tmp 10)), none⟩,
  ⟨some 12, (.load 23 (.tmp 2)), some (11, false)⟩,
  ⟨some 13, (.call { callee := (.value (.func 10)), args := #[(.tmp 12)], argTypes := #[23] }), some (11, false)⟩,
  ⟨some 14, (.unOp .not 4 (.tmp 13)), some (11, false)⟩,
  ⟨some 15, (.pick (.tmp 11) (.const (.bool true)) (.tmp 14)), none⟩,
  ⟨some 16, (.move (.tmp 15)), none⟩,
  ⟨some 17, (.load 23 (.tmp 3)), some (16, false)⟩,
  ⟨some 18, (.call { callee := (.value (.func 10)), args := #[(.tmp 17)], argTypes := #[23] }), some (16, false)⟩,
  ⟨some 19, (.unOp .not 4 (.tmp 18)), some (16, false)⟩,
  ⟨some 20, (.pick (.tmp 16) (.const (.bool true)) (.tmp 19)), none⟩]
abbrev order_r3 : List Sop := [⟨some 21, (.call { callee := (.value (.func 9)), args := #[], argTypes := #[] }), none⟩,
  ⟨some 4, (.assign (.tmp 21)), none⟩]
abbrev order_0 : Cc := (.seq (.region order_r3) .ret)
abbrev order_1 : Cc := (.cond (.tmp 20) order_0 .skip)
abbrev order_2 : Cc := (.seq (.region order_r2) order_1)
abbrev order_r4 : List Sop := [⟨some 5, (.assign (.func 11)), none⟩]
abbrev order_r5 : List (Sop × Kd) := [(⟨some 22, (.move (.tmp 5)), none⟩, .pu),
  (⟨some 23, (.load 23 (.tmp 2)), none⟩, .pu),
  (⟨some 25, (.move (.tmp 5)), none⟩, .la [5]),
  (⟨some 26, (.load 23 (.tmp 3)), none⟩, .la [3]),
  (⟨some 29, (.load 23 (.tmp 2)), none⟩, .la [2]),
  (⟨some 31, (.load 23 (.tmp 3)), none⟩, .la [3]),
  (⟨some 24, (.call { callee := (.value (.tmp 22)), args := #[(.tmp 23)], argTypes := #[23] }), none⟩, .ch [31, 29, 26, 25] true),
  (⟨some 27, (.call { callee := (.value (.tmp 25)), args := #[(.tmp 26)], argTypes := #[23] }), none⟩, .ch [31, 29] true),
  (⟨some 28, (.binOp .lss 2 (.tmp 24) (.tmp 27) 2), none⟩, .la [24, 27]),
  (⟨some 30, (.call { callee := (.value (.func 12)), args := #[(.tmp 29)], argTypes := #[23] }), none⟩, .ch [28, 31] true),
  (⟨some 32, (.call { callee := (.value (.func 12)), args := #[(.tmp 31)], argTypes := #[23] }), none⟩, .ch [28] true),
  (⟨some 33, (.binOp .lss 2 (.tmp 30) (.tmp 32) 2), none⟩, .pu),
  (⟨some 34, (.binOp .eql 4 (.tmp 28) (.tmp 33) 4), none⟩, .pu),
  (⟨some 35, (.move (.tmp 34)), none⟩, .pu),
  (⟨some 36, (.load 23 (.tmp 2)), some (35, true)⟩, .la [2, 35]),
  (⟨some 37, (.load 23 (.tmp 3)), some (35, true)⟩, .la [3, 35]),
  (⟨some 38, (.binOp .eql 23 (.tmp 36) (.tmp 37) 23), some (35, true)⟩, .la [36, 37, 35]),
  (⟨some 39, (.load 23 (.tmp 2)), some (35, true)⟩, .pu),
  (⟨some 41, (.load 23 (.tmp 3)), some (35, true)⟩, .la [3, 35]),
  (⟨some 40, (.call { callee := (.value (.func 12)), args := #[(.tmp 39)], argTypes := #[23] }), some (35, true)⟩, .ch [41, 38, 37, 36] true),
  (⟨some 42, (.call { callee := (.value (.func 12)), args := #[(.tmp 41)], argTypes := #[23] }), some (35, true)⟩, .ch [38, 37, 36] true),
  (⟨some 43, (.binOp .eql 2 (.tmp 40) (.tmp 42) 2), some (35, true)⟩, .pu),
  (⟨some 44, (.binOp .eql 4 (.tmp 38) (.tmp 43) 4), some (35, true)⟩, .pu),
  (⟨some 45, (.pick (.tmp 35) (.tmp 44) (.const (.bool false))), none⟩, .pu),
  (⟨some 4, (.assign (.tmp 45)), none⟩, .pu)]
abbrev order_3 : Cc := (.seq (.draw [] order_r5) .ret)
abbrev order_4 : Cc := (.seq (.region order_r4) order_3)
abbrev order_5 : Cc := (.seq order_2 order_4)
abbrev order_6 : Cc := (.seq (.region order_r1) order_5)
abbrev order : Cc := (.seq (.region order_r0) order_6)
theorem order_b : bodyC Try.f4 = order := by kernel_rfl
theorem order_k : cbl Try.prog 4 = true := by kernel_rfl
theorem order_res : Try.f4.results.toList = [(.tmp 4)] := by kernel_rfl
theorem order_o {ds : List D} {x : D} (hl : ds.length ≤ 46) (h : WC Try.prog [] order { n := 46, tm := numb 0 (ds.map .d), hp := [] } (retQ Try.prog [(.tmp 4)] [] (isD x))) : Pu Try.prog 4 ds x := Pu.ofWC (fn := Try.f4) rfl order_b (by simp) order_k Try.ntmps4 order_res hl h
/-- cubby/cubbylaw08.StampOrder$1 -/
abbrev okey_r0 : List Sop := [⟨some 1, (.box 23 (.tmp 0)), none⟩,
  ⟨some 2, (.assign (.const (.int .i64 0))), none⟩]
abbrev okey_r1 : List Sop := [⟨some 3, (.fieldAddr 23 (.tmp 1) 0), none⟩,
  ⟨some 4, (.load 3 (.tmp 3)), none⟩,
  ⟨some 5, (.binOp .mul 2 (.tmp 4) (.const (.int .i64 12)) 2), none⟩,
  ⟨some 6, (.fieldAddr 23 (.tmp 1) 1), none⟩,
  ⟨some 7, (.load 3 (.tmp 6)), none⟩,
  ⟨some 8, (.binOp .add 2 (.tmp 5) (.tmp 7) 2), none⟩,
  ⟨some 9, (.binOp .mul 2 (.tmp 8) (.const (.int .i64 31)) 2), none⟩,
  ⟨some 10, (.fieldAddr 23 (.tmp 1) 2), none⟩,
  ⟨some 11, (.load 3 (.tmp 10)), none⟩,
  ⟨some 12, (.binOp .add 2 (.tmp 9) (.tmp 11) 2), none⟩,
  ⟨some 13, (.binOp .mul 2 (.tmp 12) (.const (.int .i64 24)) 2), none⟩,
  ⟨some 14, (.fieldAddr 23 (.tmp 1) 3), none⟩,
  ⟨some 15, (.load 3 (.tmp 14)), none⟩,
  ⟨some 16, (.binOp .add 2 (.tmp 13) (.tmp 15) 2), none⟩,
  ⟨some 17, (.binOp .mul 2 (.tmp 16) (.const (.int .i64 60)) 2), none⟩,
  ⟨some 18, (.fieldAddr 23 (.tmp 1) 4), none⟩,
  ⟨some 19, (.load 3 (.tmp 18)), none⟩,
  ⟨some 20, (.binOp .add 2 (.tmp 17) (.tmp 19) 2), none⟩,
  ⟨some 21, (.binOp .mul 2 (.tmp 20) (.const (.int .i64 60)) 2), none⟩,
  ⟨some 22, (.fieldAddr 23 (.tmp 1) 5), none⟩,
  ⟨some 23, (.load 3 (.tmp 22)), none⟩,
  ⟨some 24, (.binOp .add 2 (.tmp 21) (.tmp 23) 2), none⟩,
  ⟨some 2, (.assign (.tmp 24)), none⟩]
abbrev okey_0 : Cc := (.seq (.region okey_r1) .ret)
abbrev okey : Cc := (.seq (.region okey_r0) okey_0)
theorem okey_b : bodyC Try.f11 = okey := by kernel_rfl
theorem okey_k : cbl Try.prog 11 = true := by kernel_rfl
theorem okey_res : Try.f11.results.toList = [(.tmp 2)] := by kernel_rfl
theorem okey_o {ds : List D} {x : D} (hl : ds.length ≤ 25) (h : WC Try.prog [] okey { n := 25, tm := numb 0 (ds.map .d), hp := [] } (retQ Try.prog [(.tmp 2)] [] (isD x))) : Pu Try.prog 11 ds x := Pu.ofWC (fn := Try.f11) rfl okey_b (by simp) okey_k Try.ntmps11 okey_res hl h
/-- cubby/cubbylaw08.StampZones -/
abbrev zones_r0 : List Sop := [⟨some 2, (.box 23 (.tmp 0)), none⟩,
  ⟨some 4, (.assign (.const (.bool false))), none⟩]
abbrev zones_r1 : List Sop := [⟨some 8, (.load 23 (.tmp 2)), none⟩,
  ⟨some 5, (.alloc 23), none⟩,
  ⟨none, (.store 23 (.tmp 5) (.tmp 8)), none⟩]
abbrev zones_r2 : List Sop := [⟨some 9, (.move (.tmp 1)), none⟩,
  ⟨some 10, (.fieldAddr 23 (.tmp 5) 6), none⟩,
  ⟨none, (.store 3 (.tmp 10) (.tmp 9)), none⟩]
abbrev zones_r3 : List Sop := [⟨some 11, (.call { callee := (.value (.func 9)), args := #[], argTypes := #[] }), none⟩,
  ⟨some 12, (.unOp .not 4 (.tmp 11)), none⟩,
  ⟨some 13, (.move (.tmp 12)), none⟩,
  ⟨some 14, (.load 23 (.tmp 2)), some (13, false)⟩,
  ⟨some 15, (.call { callee := (.value (.func 10)), args := #[(.tmp 14)], argTypes := #[23] }), some (13, false)⟩,
  ⟨some 16, (.unOp .not 4 (.tmp 15)), some (13, false)⟩,
  ⟨some 17, (.pick (.tmp 13) (.const (.bool true)) (.tmp 16)), none⟩,
  ⟨some 18, (.move (.tmp 17)), none⟩,
  ⟨some 19, (.load 23 (.tmp 5)), some (18, false)⟩,
  ⟨some 20, (.call { callee := (.value (.func 10)), args := #[(.tmp 19)], argTypes := #[23] }), some (18, false)⟩,
  ⟨some 21, (.unOp .not 4 (.tmp 20)), some (18, false)⟩,
  ⟨some 22, (.pick (.tmp 18) (.const (.bool true)) (.tmp 21)), none⟩]
abbrev zones_r4 : List Sop := [⟨some 23, (.call { callee := (.value (.func 9)), args := #[], argTypes := #[] }), none⟩,
  ⟨some 4, (.assign (.tmp 23)), none⟩]
abbrev zones_0 : Cc := (.seq (.region zones_r4) .ret)
abbrev zones_1 : Cc := (.cond (.tmp 22) zones_0 .skip)
abbrev zones_2 : Cc := (.seq (.region zones_r3) zones_1)
abbrev zones_r5 : List (Sop × Kd) := [(⟨some 24, (.load 23 (.tmp 2)), none⟩, .pu),
  (⟨some 26, (.load 23 (.tmp 5)), none⟩, .la [5]),
  (⟨some 29, (.fieldAddr 23 (.tmp 5) 6), none⟩, .la [5]),
  (⟨some 30, (.load 3 (.tmp 29)), none⟩, .la [29]),
  (⟨some 31, (.fieldAddr 23 (.tmp 2) 6), none⟩, .la [2]),
  (⟨some 32, (.load 3 (.tmp 31)), none⟩, .la [31]),
  (⟨some 33, (.binOp .sub 3 (.tmp 30) (.tmp 32) 3), none⟩, .la [30, 32]),
  (⟨some 34, (.binOp .mul 2 (.tmp 33) (.const (.int .i64 60)) 2), none⟩, .la [33]),
  (⟨some 25, (.call { callee := (.value (.func 12)), args := #[(.tmp 24)], argTypes := #[23] }), none⟩, .ch [34, 33, 32, 31, 30, 29, 26] true),
  (⟨some 27, (.call { callee := (.value (.func 12)), args := #[(.tmp 26)], argTypes := #[23] }), none⟩, .ch [34, 33, 32, 31, 30, 29] true),
  (⟨some 28, (.binOp .sub 2 (.tmp 25) (.tmp 27) 2), none⟩, .pu),
  (⟨some 35, (.binOp .neq 2 (.tmp 28) (.tmp 34) 2), none⟩, .pu)]
abbrev zones_r6 : List Sop := [⟨some 4, (.assign (.const (.bool false))), none⟩]
abbrev zones_3 : Cc := (.seq (.region zones_r6) .ret)
abbrev zones_4 : Cc := (.cond (.tmp 35) zones_3 .skip)
abbrev zones_5 : Cc := (.seq (.draw [] zones_r5) zones_4)
abbrev zones_r7 : List (Sop × Kd) := [(⟨some 37, (.load 23 (.tmp 2)), none⟩, .pu),
  (⟨some 40, (.fieldAddr 23 (.tmp 2) 6), none⟩, .la [2]),
  (⟨some 41, (.load 3 (.tmp 40)), none⟩, .la [40]),
  (⟨some 38, (.call { callee := (.value (.func 12)), args := #[(.tmp 37)], argTypes := #[23] }), none⟩, .ch [41, 40, 6] true),
  (⟨some 39, (.binOp .add 2 (.tmp 38) (.const (.int .i64 86400)) 2), none⟩, .pu),
  (⟨some 42, (.call { callee := (.value (.func 13)), args := #[(.tmp 39), (.tmp 41)], argTypes := #[2, 3] }), none⟩, .ch [6] false),
  (⟨some 36, (.move (.tmp 42)), none⟩, .la [42]),
  (⟨some 43, (.extract (.tmp 36) 0), none⟩, .la [36]),
  (⟨some 44, (.extract (.tmp 36) 1), none⟩, .la [36]),
  (⟨some 6, (.alloc 23), none⟩, .ch [44, 43, 36] true),
  (⟨none, (.store 23 (.tmp 6) (.tmp 43)), none⟩, .ch [44] true),
  (⟨some 7, (.assign (.tmp 44)), none⟩, .pu)]
abbrev zones_r8 : List Sop := [⟨some 45, (.move (.tmp 7)), none⟩,
  ⟨some 46, (.unOp .not 4 (.tmp 45)), none⟩]
abbrev zones_r9 : List Sop := [⟨some 47, (.fieldAddr 23 (.tmp 2) 0), none⟩,
  ⟨some 48, (.load 3 (.tmp 47)), none⟩,
  ⟨some 49, (.binOp .eql 3 (.tmp 48) (.const (.int .i64 2999)) 3), none⟩,
  ⟨some 4, (.assign (.tmp 49)), none⟩]
abbrev zones_6 : Cc := (.seq (.region zones_r9) .ret)
abbrev zones_7 : Cc := (.cond (.tmp 46) zones_6 .skip)
abbrev zones_8 : Cc := (.seq (.region zones_r8) zones_7)
abbrev zones_r10 : List Sop := [⟨some 50, (.fieldAddr 23 (.tmp 6) 3), none⟩,
  ⟨some 51, (.load 3 (.tmp 50)), none⟩,
  ⟨some 52, (.fieldAddr 23 (.tmp 2) 3), none⟩,
  ⟨some 53, (.load 3 (.tmp 52)), none⟩,
  ⟨some 54, (.binOp .eql 3 (.tmp 51) (.tmp 53) 3), none⟩,
  ⟨some 55, (.move (.tmp 54)), none⟩,
  ⟨some 56, (.fieldAddr 23 (.tmp 6) 4), some (55, true)⟩,
  ⟨some 57, (.load 3 (.tmp 56)), some (55, true)⟩,
  ⟨some 58, (.fieldAddr 23 (.tmp 2) 4), some (55, true)⟩,
  ⟨some 59, (.load 3 (.tmp 58)), some (55, true)⟩,
  ⟨some 60, (.binOp .eql 3 (.tmp 57) (.tmp 59) 3), some (55, true)⟩,
  ⟨some 61, (.pick (.tmp 55) (.tmp 60) (.const (.bool false))), none⟩,
  ⟨some 62, (.move (.tmp 61)), none⟩,
  ⟨some 63, (.fieldAddr 23 (.tmp 6) 5), some (62, true)⟩,
  ⟨some 64, (.load 3 (.tmp 63)), some (62, true)⟩,
  ⟨some 65, (.fieldAddr 23 (.tmp 2) 5), some (62, true)⟩,
  ⟨some 66, (.load 3 (.tmp 65)), some (62, true)⟩,
  ⟨some 67, (.binOp .eql 3 (.tmp 64) (.tmp 66) 3), some (62, true)⟩,
  ⟨some 68, (.pick (.tmp 62) (.tmp 67) (.const (.bool false))), none⟩,
  ⟨some 69, (.move (.tmp 68)), none⟩,
  ⟨some 70, (.fieldAddr 23 (.tmp 6) 2), some (69, true)⟩,
  ⟨some 71, (.load 3 (.tmp 70)), some (69, true)⟩,
  ⟨some 72, (.fieldAddr 23 (.tmp 2) 2), some (69, true)⟩,
  ⟨some 73, (.load 3 (.tmp 72)), some (69, true)⟩,
  ⟨some 74, (.binOp .add 3 (.tmp 73) (.const (.int .i64 1)) 3), some (69, true)⟩,
  ⟨some 75, (.binOp .eql 3 (.tmp 71) (.tmp 74) 3), some (69, true)⟩,
  ⟨some 76, (.move (.tmp 75)), some (69, true)⟩,
  ⟨some 77, (.fieldAddr 23 (.tmp 6) 1), some (76, true)⟩,
  ⟨some 78, (.load 3 (.tmp 77)), some (76, true)⟩,
  ⟨some 79, (.fieldAddr 23 (.tmp 2) 1), some (76, true)⟩,
  ⟨some 80, (.load 3 (.tmp 79)), some (76, true)⟩,
  ⟨some 81, (.binOp .eql 3 (.tmp 78) (.tmp 80) 3), some (76, true)⟩,
  ⟨some 82, (.pick (.tmp 76) (.tmp 81) (.const (.bool false))), some (69, true)⟩,
  ⟨some 83, (.move (.tmp 82)), some (69, true)⟩,
  ⟨some 84, (.fieldAddr 23 (.tmp 6) 0), some (83, true)⟩,
  ⟨some 85, (.load 3 (.tmp 84)), some (83, true)⟩,
  ⟨some 86, (.fieldAddr 23 (.tmp 2) 0), some (83, true)⟩,
  ⟨some 87, (.load 3 (.tmp 86)), some (83, true)⟩,
  ⟨some 88, (.binOp .eql 3 (.tmp 85) (.tmp 87) 3), some (83, true)⟩,
  ⟨some 89, (.pick (.tmp 83) (.tmp 88) (.const (.bool false))), some (69, true)⟩,
  ⟨some 90, (.move (.tmp 89)), some (69, true)⟩,
  ⟨some 91, (.fieldAddr 23 (.tmp 6) 2), some (90, false)⟩,
  ⟨some 92, (.load 3 (.tmp 91)), some (90, false)⟩,
  ⟨some 93, (.binOp .eql 3 (.tmp 92) (.const (.int .i64 1)) 3), some (90, false)⟩,
  ⟨some 94, (.move (.tmp 93)), some (90, false)⟩,
  ⟨some 95, (.fieldAddr 23 (.tmp 2) 2), some (94, true)⟩,
  ⟨some 96, (.load 3 (.tmp 95)), some (94, true)⟩,
  ⟨some 97, (.binOp .geq 3 (.tmp 96) (.const (.int .i64 28)) 3), some (94, true)⟩,
  ⟨some 98, (.pick (.tmp 94) (.tmp 97) (.const (.bool false))), some (90, false)⟩,
  ⟨some 99, (.pick (.tmp 90) (.const (.bool true)) (.tmp 98)), some (69, true)⟩,
  ⟨some 100, (.pick (.tmp 69) (.tmp 99) (.const (.bool false))), none⟩,
  ⟨some 4, (.assign (.tmp 100)), none⟩]
abbrev zones_9 : Cc := (.seq (.region zones_r10) .ret)
abbrev zones_10 : Cc := (.seq zones_8 zones_9)
abbrev zones_11 : Cc := (.seq (.draw [(6, 23)] zones_r7) zones_10)
abbrev zones_12 : Cc := (.seq zones_5 zones_11)
abbrev zones_13 : Cc := (.seq zones_2 zones_12)
abbrev zones_14 : Cc := (.seq (.region zones_r2) zones_13)
abbrev zones_15 : Cc := (.seq (.region zones_r1) zones_14)
abbrev zones : Cc := (.seq (.region zones_r0) zones_15)
theorem zones_b : bodyC Try.f6 = zones := by kernel_rfl
theorem zones_k : cbl Try.prog 6 = true := by kernel_rfl
theorem zones_res : Try.f6.results.toList = [(.tmp 4)] := by kernel_rfl
theorem zones_o {ds : List D} {x : D} (hl : ds.length ≤ 101) (h : WC Try.prog [] zones { n := 101, tm := numb 0 (ds.map .d), hp := [] } (retQ Try.prog [(.tmp 4)] [] (isD x))) : Pu Try.prog 6 ds x := Pu.ofWC (fn := Try.f6) rfl zones_b (by simp) zones_k Try.ntmps6 zones_res hl h
end Go.Proofs.Ytdeegjhnomdepaa
