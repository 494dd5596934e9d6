/- The brief form of functions. -/
import Derived.Test.YthmiekppdhmbiaaProg
import Derived.Test.YthmiekppdhmbiaaWlV
set_option linter.unusedVariables false
set_option maxRecDepth 100000
namespace Go.Proofs.Ythmiekppdhmbiaa
open Go.Wl
theorem mx : Try.prog.follows .mixedOrders = true := by kernel_rfl
theorem tk_26 : tk Try.prog 26 = .slice := by kernel_rfl
theorem tk_3 : tk Try.prog 3 = .other := by kernel_rfl
theorem el_26 : el Try.prog 26 = some (22, 1) := by kernel_rfl
theorem arr_26 : arr Try.prog 26 = none := by kernel_rfl
theorem isStr_26 : isStr Try.prog 26 = false := by kernel_rfl
theorem ag_22 : ag Try.prog 22 = some (1, false) := by kernel_rfl
theorem tk_22 : tk Try.prog 22 = .other := by kernel_rfl
theorem tk_30 : tk Try.prog 30 = .slice := by kernel_rfl
theorem el_30 : el Try.prog 30 = some (43, 2) := by kernel_rfl
theorem arr_30 : arr Try.prog 30 = none := by kernel_rfl
theorem isStr_30 : isStr Try.prog 30 = false := by kernel_rfl
theorem fd_43_0 : fd Try.prog 43 0 = some (0, 1, false) := by kernel_rfl
theorem fd_43_1 : fd Try.prog 43 1 = some (1, 1, false) := by kernel_rfl
theorem zv_22 : zv Try.prog 22 = some [.d (.int .u32 0)] := by kernel_rfl
theorem apd_26 : apd Try.prog 26 = some (22, 1, 4) := by kernel_rfl
theorem ag_43 : ag Try.prog 43 = some (2, true) := by kernel_rfl
theorem zv_43 : zv Try.prog 43 = some [.d (.int .u32 0), .d (.int .u32 0)] := by kernel_rfl
theorem fd_29_3 : fd Try.prog 29 3 = some (3, 1, false) := by kernel_rfl
theorem ag_26 : ag Try.prog 26 = some (1, false) := by kernel_rfl
theorem cvK_3_22 : cvK Try.prog 3 22 = .int .u32 := by kernel_rfl
theorem cvB_3_22 : cvB Try.prog 3 22 = false := by kernel_rfl
theorem ag_29 : ag Try.prog 29 = some (5, true) := by kernel_rfl
theorem fp_43 : fplaces Try.prog 43 = some [(0, 1), (1, 1)] := by kernel_rfl
theorem fd_29_4 : fd Try.prog 29 4 = some (4, 1, false) := by kernel_rfl
theorem ag_27 : ag Try.prog 27 = some (1, false) := by kernel_rfl
theorem tk_27 : tk Try.prog 27 = .slice := by kernel_rfl
theorem zv_49 : zv Try.prog 49 = some [.d (.int .u32 0), .d (.int .u32 0), .nils, .d (.str []), .d (.int .i64 0), .d (.bool false), .nils, .d (.bool false), .d (.int .i64 0)] := by kernel_rfl
theorem fp_49 : fplaces Try.prog 49 = some [(0, 1), (1, 1), (2, 1), (3, 1), (4, 1), (5, 1), (6, 1), (7, 1), (8, 1)] := by kernel_rfl
theorem el_23 : el Try.prog 23 = some (49, 9) := by kernel_rfl
theorem arr_23 : arr Try.prog 23 = none := by kernel_rfl
theorem isStr_23 : isStr Try.prog 23 = false := by kernel_rfl
theorem zv_25 : zv Try.prog 25 = some [.d (.str []), .d (.int .u32 0), .d (.int .u32 0), .d (.int .u32 0), .d (.bool false), .nils] := by kernel_rfl
theorem fp_25 : fplaces Try.prog 25 = some [(0, 1), (1, 1), (2, 1), (3, 1), (4, 1), (5, 1)] := by kernel_rfl
theorem zv_29 : zv Try.prog 29 = some [.d (.str []), .d (.int .u32 0), .d (.bool false), .nils, .nils] := by kernel_rfl
theorem fd_29_0 : fd Try.prog 29 0 = some (0, 1, false) := by kernel_rfl
theorem ag_9 : ag Try.prog 9 = some (1, false) := by kernel_rfl
theorem tk_9 : tk Try.prog 9 = .str := by kernel_rfl
theorem fd_29_2 : fd Try.prog 29 2 = some (2, 1, false) := by kernel_rfl
theorem ag_4 : ag Try.prog 4 = some (1, false) := by kernel_rfl
theorem fd_25_0 : fd Try.prog 25 0 = some (0, 1, false) := by kernel_rfl
theorem fd_25_1 : fd Try.prog 25 1 = some (1, 1, false) := by kernel_rfl
theorem fp_29 : fplaces Try.prog 29 = some [(0, 1), (1, 1), (2, 1), (3, 1), (4, 1)] := by kernel_rfl
theorem ag_25 : ag Try.prog 25 = some (6, true) := by kernel_rfl
theorem tk_23 : tk Try.prog 23 = .slice := by kernel_rfl
theorem ag_49 : ag Try.prog 49 = some (9, true) := by kernel_rfl
theorem fd_49_0 : fd Try.prog 49 0 = some (0, 1, false) := by kernel_rfl
theorem fd_49_2 : fd Try.prog 49 2 = some (2, 1, false) := by kernel_rfl
theorem ag_46 : ag Try.prog 46 = some (1, false) := by kernel_rfl
theorem el_27 : el Try.prog 27 = some (46, 1) := by kernel_rfl
theorem arr_27 : arr Try.prog 27 = none := by kernel_rfl
theorem isStr_27 : isStr Try.prog 27 = false := by kernel_rfl
theorem zv_46 : zv Try.prog 46 = some [.nils] := by kernel_rfl
theorem apd_27 : apd Try.prog 27 = some (46, 1, 24) := by kernel_rfl
theorem fd_25_5 : fd Try.prog 25 5 = some (5, 1, false) := by kernel_rfl
theorem ag_23 : ag Try.prog 23 = some (1, false) := by kernel_rfl
theorem fd_49_7 : fd Try.prog 49 7 = some (7, 1, false) := by kernel_rfl
theorem apd_23 : apd Try.prog 23 = some (49, 9, 104) := by kernel_rfl
theorem fd_49_6 : fd Try.prog 49 6 = some (6, 1, false) := by kernel_rfl
theorem ag_47 : ag Try.prog 47 = some (1, false) := by kernel_rfl
theorem tk_46 : tk Try.prog 46 = .slice := by kernel_rfl
theorem el_46 : el Try.prog 46 = some (9, 1) := by kernel_rfl
theorem arr_46 : arr Try.prog 46 = none := by kernel_rfl
theorem isStr_46 : isStr Try.prog 46 = false := by kernel_rfl
theorem zv_9 : zv Try.prog 9 = some [.d (.str [])] := by kernel_rfl
theorem apd_46 : apd Try.prog 46 = some (9, 1, 16) := by kernel_rfl
theorem tk_47 : tk Try.prog 47 = .slice := by kernel_rfl
theorem el_47 : el Try.prog 47 = some (5, 1) := by kernel_rfl
theorem arr_47 : arr Try.prog 47 = none := by kernel_rfl
theorem isStr_47 : isStr Try.prog 47 = false := by kernel_rfl
theorem zv_5 : zv Try.prog 5 = some [.d (.int .u8 0)] := by kernel_rfl
theorem apd_47 : apd Try.prog 47 = some (5, 1, 1) := by kernel_rfl
theorem tk_4 : tk Try.prog 4 = .bool := by kernel_rfl
theorem fd_29_1 : fd Try.prog 29 1 = some (1, 1, false) := by kernel_rfl
theorem fd_25_2 : fd Try.prog 25 2 = some (2, 1, false) := by kernel_rfl
theorem fd_25_3 : fd Try.prog 25 3 = some (3, 1, false) := by kernel_rfl
theorem fd_25_4 : fd Try.prog 25 4 = some (4, 1, false) := by kernel_rfl
theorem fd_49_1 : fd Try.prog 49 1 = some (1, 1, false) := by kernel_rfl
theorem fd_49_3 : fd Try.prog 49 3 = some (3, 1, false) := by kernel_rfl
theorem fd_49_4 : fd Try.prog 49 4 = some (4, 1, false) := by kernel_rfl
theorem ag_3 : ag Try.prog 3 = some (1, false) := by kernel_rfl
theorem fd_49_5 : fd Try.prog 49 5 = some (5, 1, false) := by kernel_rfl
theorem fd_49_8 : fd Try.prog 49 8 = some (8, 1, false) := by kernel_rfl
theorem cvK_47_9 : cvK Try.prog 47 9 = .bytes := by kernel_rfl
theorem cvB_47_9 : cvB Try.prog 47 9 = false := by kernel_rfl
/-- cubby/cubbyref07.Rises -/
abbrev rises_r0 : List Sop := [⟨some 2, (.assign (.const (.bool false))), none⟩]
abbrev rises_r1 : List Sop := [⟨some 3, (.assign (.const (.int .i64 0))), none⟩]
abbrev rises_r2 : List Sop := [⟨some 4, (.move (.tmp 3)), none⟩,
  ⟨some 5, (.move (.tmp 0)), none⟩,
  ⟨some 6, (.call { callee := (.builtin .len), args := #[(.tmp 5)], argTypes := #[26] }), none⟩,
  ⟨some 7, (.binOp .lss 3 (.tmp 4) (.tmp 6) 3), none⟩]
abbrev rises_0 : Cc := (.cond (.tmp 7) .skip (.exit 0))
abbrev rises_1 : Cc := (.seq (.region rises_r2) rises_0)
abbrev rises_r4 : List (Sop × Kd) := [(⟨some 10, (.move (.tmp 0)), none⟩, .pu),
  (⟨some 11, (.move (.tmp 3)), none⟩, .pu),
  (⟨some 12, (.indexAddr 26 (.tmp 10) (.tmp 11)), none⟩, .pu),
  (⟨some 13, (.load 22 (.tmp 12)), none⟩, .pu),
  (⟨some 14, (.binOp .eql 22 (.tmp 13) (.const (.int .u32 0)) 22), none⟩, .pu),
  (⟨some 15, (.move (.tmp 14)), none⟩, .pu),
  (⟨some 16, (.move (.tmp 3)), some (15, false)⟩, .pu),
  (⟨some 17, (.binOp .gtr 3 (.tmp 16) (.const (.int .i64 0)) 3), some (15, false)⟩, .pu),
  (⟨some 18, (.move (.tmp 17)), some (15, false)⟩, .pu),
  (⟨some 19, (.move (.tmp 0)), some (18, true)⟩, .pu),
  (⟨some 20, (.move (.tmp 3)), some (18, true)⟩, .pu),
  (⟨some 21, (.indexAddr 26 (.tmp 19) (.tmp 20)), some (18, true)⟩, .pu),
  (⟨some 22, (.load 22 (.tmp 21)), some (18, true)⟩, .pu),
  (⟨some 23, (.move (.tmp 0)), some (18, true)⟩, .pu),
  (⟨some 24, (.move (.tmp 3)), some (18, true)⟩, .pu),
  (⟨some 25, (.binOp .sub 3 (.tmp 24) (.const (.int .i64 1)) 3), some (18, true)⟩, .pu),
  (⟨some 26, (.indexAddr 26 (.tmp 23) (.tmp 25)), some (18, true)⟩, .pu),
  (⟨some 27, (.load 22 (.tmp 26)), some (18, true)⟩, .pu),
  (⟨some 28, (.binOp .leq 22 (.tmp 22) (.tmp 27) 22), some (18, true)⟩, .pu),
  (⟨some 29, (.pick (.tmp 18) (.tmp 28) (.const (.bool false))), some (15, false)⟩, .pu),
  (⟨some 30, (.pick (.tmp 15) (.const (.bool true)) (.tmp 29)), none⟩, .pu)]
abbrev rises_r5 : List Sop := [⟨some 2, (.assign (.const (.bool false))), none⟩]
abbrev rises_2 : Cc := (.seq (.region rises_r5) .ret)
abbrev rises_3 : Cc := (.cond (.tmp 30) rises_2 .skip)
abbrev rises_4 : Cc := (.seq (.draw rises_r4) rises_3)
abbrev rises_5 : Cc := (.block 1 rises_4)
abbrev rises_r3 : List Sop := [⟨some 8, (.move (.tmp 3)), none⟩,
  ⟨some 9, (.binOp .add 3 (.tmp 8) (.const (.int .i64 1)) 3), none⟩,
  ⟨some 3, (.assign (.tmp 9)), none⟩]
abbrev rises_6 : Cc := (.seq rises_5 (.region rises_r3))
abbrev rises_7 : Cc := (.seq rises_1 rises_6)
abbrev rises_8 : Cc := (.loop rises_7)
abbrev rises_9 : Cc := (.block 0 rises_8)
abbrev rises_10 : Cc := (.seq (.region rises_r1) rises_9)
abbrev rises_r6 : List Sop := [⟨some 2, (.assign (.const (.bool true))), none⟩]
abbrev rises_11 : Cc := (.seq (.region rises_r6) .ret)
abbrev rises_12 : Cc := (.seq rises_10 rises_11)
abbrev rises : Cc := (.seq (.region rises_r0) rises_12)
theorem rises_b : bodyC Try.f26 = rises := by kernel_rfl
theorem rises_k : cbl Try.prog 26 = true := by kernel_rfl
theorem rises_res : Try.f26.results.toList = [(.tmp 2)] := by kernel_rfl
theorem rises_o {ds : List D} {x : D} (hl : ds.length ≤ 31) (h : WC Try.prog [] rises { n := 31, tm := numb 0 (ds.map .d), hp := [] } (retQ Try.prog [(.tmp 2)] [] (isD x))) : Pu Try.prog 26 ds x := Pu.ofWC (fn := Try.f26) rfl rises_b (by simp) rises_k Try.ntmps26 rises_res hl h
/-- cubby/cubbyref07.Has -/
abbrev rhas_r0 : List Sop := [⟨some 6, (.assign (.const (.bool false))), none⟩]
abbrev rhas_r1 : List Sop := [⟨some 7, (.assign (.const (.int .i64 0))), none⟩]
abbrev rhas_r2 : List Sop := [⟨some 10, (.move (.tmp 7)), none⟩,
  ⟨some 11, (.move (.tmp 0)), none⟩,
  ⟨some 12, (.call { callee := (.builtin .len), args := #[(.tmp 11)], argTypes := #[30] }), none⟩,
  ⟨some 13, (.binOp .lss 3 (.tmp 10) (.tmp 12) 3), none⟩]
abbrev rhas_0 : Cc := (.cond (.tmp 13) .skip (.exit 0))
abbrev rhas_1 : Cc := (.seq (.region rhas_r2) rhas_0)
abbrev rhas_r4 : List (Sop × Kd) := [(⟨some 16, (.move (.tmp 0)), none⟩, .pu),
  (⟨some 17, (.move (.tmp 7)), none⟩, .pu),
  (⟨some 18, (.indexAddr 30 (.tmp 16) (.tmp 17)), none⟩, .pu),
  (⟨some 19, (.fieldAddr 43 (.tmp 18) 0), none⟩, .pu),
  (⟨some 20, (.load 22 (.tmp 19)), none⟩, .pu),
  (⟨some 21, (.move (.tmp 0)), none⟩, .pu),
  (⟨some 22, (.move (.tmp 7)), none⟩, .pu),
  (⟨some 23, (.indexAddr 30 (.tmp 21) (.tmp 22)), none⟩, .pu),
  (⟨some 24, (.fieldAddr 43 (.tmp 23) 1), none⟩, .pu),
  (⟨some 25, (.load 22 (.tmp 24)), none⟩, .pu),
  (⟨some 8, (.assign (.tmp 20)), none⟩, .pu),
  (⟨some 9, (.assign (.tmp 25)), none⟩, .pu)]
abbrev rhas_r5 : List Sop := [⟨some 26, (.move (.tmp 8)), none⟩,
  ⟨some 27, (.binOp .eql 22 (.tmp 26) (.const (.int .u32 0)) 22), none⟩]
abbrev rhas_r6 : List Sop := [⟨some 28, (.move (.tmp 2)), none⟩,
  ⟨some 8, (.assign (.tmp 28)), none⟩]
abbrev rhas_2 : Cc := (.cond (.tmp 27) (.region rhas_r6) .skip)
abbrev rhas_3 : Cc := (.seq (.region rhas_r5) rhas_2)
abbrev rhas_r7 : List Sop := [⟨some 29, (.move (.tmp 9)), none⟩,
  ⟨some 30, (.binOp .eql 22 (.tmp 29) (.const (.int .u32 0)) 22), none⟩]
abbrev rhas_r8 : List Sop := [⟨some 31, (.move (.tmp 2)), none⟩,
  ⟨some 9, (.assign (.tmp 31)), none⟩]
abbrev rhas_4 : Cc := (.cond (.tmp 30) (.region rhas_r8) .skip)
abbrev rhas_5 : Cc := (.seq (.region rhas_r7) rhas_4)
abbrev rhas_r9 : List Sop := [⟨some 32, (.move (.tmp 1)), none⟩,
  ⟨some 33, (.binOp .gtr 22 (.tmp 32) (.const (.int .u32 0)) 22), none⟩,
  ⟨some 34, (.move (.tmp 33)), none⟩,
  ⟨some 35, (.move (.tmp 1)), some (34, true)⟩,
  ⟨some 36, (.move (.tmp 8)), some (34, true)⟩,
  ⟨some 37, (.move (.tmp 9)), some (34, true)⟩,
  ⟨some 38, (.call { callee := (.builtin .min), args := #[(.tmp 36), (.tmp 37)], argTypes := #[22, 22] }), some (34, true)⟩,
  ⟨some 39, (.binOp .geq 22 (.tmp 35) (.tmp 38) 22), some (34, true)⟩,
  ⟨some 40, (.pick (.tmp 34) (.tmp 39) (.const (.bool false))), none⟩,
  ⟨some 41, (.move (.tmp 40)), none⟩,
  ⟨some 42, (.move (.tmp 1)), some (41, true)⟩,
  ⟨some 43, (.move (.tmp 8)), some (41, true)⟩,
  ⟨some 44, (.move (.tmp 9)), some (41, true)⟩,
  ⟨some 45, (.call { callee := (.builtin .max), args := #[(.tmp 43), (.tmp 44)], argTypes := #[22, 22] }), some (41, true)⟩,
  ⟨some 46, (.binOp .leq 22 (.tmp 42) (.tmp 45) 22), some (41, true)⟩,
  ⟨some 47, (.pick (.tmp 41) (.tmp 46) (.const (.bool false))), none⟩]
abbrev rhas_r10 : List Sop := [⟨some 6, (.assign (.const (.bool true))), none⟩]
abbrev rhas_6 : Cc := (.seq (.region rhas_r10) .ret)
abbrev rhas_7 : Cc := (.cond (.tmp 47) rhas_6 .skip)
abbrev rhas_8 : Cc := (.seq (.region rhas_r9) rhas_7)
abbrev rhas_9 : Cc := (.seq rhas_5 rhas_8)
abbrev rhas_10 : Cc := (.seq rhas_3 rhas_9)
abbrev rhas_11 : Cc := (.seq (.draw rhas_r4) rhas_10)
abbrev rhas_12 : Cc := (.block 1 rhas_11)
abbrev rhas_r3 : List Sop := [⟨some 14, (.move (.tmp 7)), none⟩,
  ⟨some 15, (.binOp .add 3 (.tmp 14) (.const (.int .i64 1)) 3), none⟩,
  ⟨some 7, (.assign (.tmp 15)), none⟩]
abbrev rhas_13 : Cc := (.seq rhas_12 (.region rhas_r3))
abbrev rhas_14 : Cc := (.seq rhas_1 rhas_13)
abbrev rhas_15 : Cc := (.loop rhas_14)
abbrev rhas_16 : Cc := (.block 0 rhas_15)
abbrev rhas_17 : Cc := (.seq (.region rhas_r1) rhas_16)
abbrev rhas_r11 : List Sop := [⟨some 6, (.assign (.const (.bool false))), none⟩]
abbrev rhas_18 : Cc := (.seq (.region rhas_r11) .ret)
abbrev rhas_19 : Cc := (.seq rhas_17 rhas_18)
abbrev rhas : Cc := (.seq (.region rhas_r0) rhas_19)
theorem rhas_b : bodyC Try.f35 = rhas := by kernel_rfl
theorem rhas_k : cbl Try.prog 35 = true := by kernel_rfl
theorem rhas_res : Try.f35.results.toList = [(.tmp 6)] := by kernel_rfl
theorem rhas_o {ds : List D} {x : D} (hl : ds.length ≤ 48) (h : WC Try.prog [] rhas { n := 48, tm := numb 0 (ds.map .d), hp := [] } (retQ Try.prog [(.tmp 6)] [] (isD x))) : Pu Try.prog 35 ds x := Pu.ofWC (fn := Try.f35) rfl rhas_b (by simp) rhas_k Try.ntmps35 rhas_res hl h
/-- cubby/cubbyref07.Pick -/
abbrev rpick_r0 : List Sop := [⟨some 4, (.assign (.const (.slice none 0 0))), none⟩]
abbrev rpick_r1 : List Sop := [⟨some 5, (.assign (.const (.slice none 0 0))), none⟩]
abbrev rpick_r2 : List Sop := [⟨some 6, (.assign (.const (.int .u32 0))), none⟩]
abbrev rpick_r3 : List Sop := [⟨some 8, (.move (.tmp 1)), none⟩,
  ⟨some 9, (.call { callee := (.builtin .len), args := #[(.tmp 8)], argTypes := #[26] }), none⟩,
  ⟨some 10, (.binOp .gtr 3 (.tmp 9) (.const (.int .i64 0)) 3), none⟩]
abbrev rpick_r4 : List Sop := [⟨some 11, (.move (.tmp 1)), none⟩,
  ⟨some 12, (.move (.tmp 1)), none⟩,
  ⟨some 13, (.call { callee := (.builtin .len), args := #[(.tmp 12)], argTypes := #[26] }), none⟩,
  ⟨some 14, (.binOp .sub 3 (.tmp 13) (.const (.int .i64 1)) 3), none⟩,
  ⟨some 15, (.indexAddr 26 (.tmp 11) (.tmp 14)), none⟩,
  ⟨some 16, (.load 22 (.tmp 15)), none⟩,
  ⟨some 6, (.assign (.tmp 16)), none⟩]
abbrev rpick_0 : Cc := (.cond (.tmp 10) (.region rpick_r4) .skip)
abbrev rpick_1 : Cc := (.seq (.region rpick_r3) rpick_0)
abbrev rpick_r5 : List Sop := [⟨some 7, (.assign (.const (.int .i64 0))), none⟩]
abbrev rpick_r6 : List Sop := [⟨some 17, (.move (.tmp 7)), none⟩,
  ⟨some 18, (.move (.tmp 1)), none⟩,
  ⟨some 19, (.call { callee := (.builtin .len), args := #[(.tmp 18)], argTypes := #[26] }), none⟩,
  ⟨some 20, (.binOp .lss 3 (.tmp 17) (.tmp 19) 3), none⟩]
abbrev rpick_2 : Cc := (.cond (.tmp 20) .skip (.exit 0))
abbrev rpick_3 : Cc := (.seq (.region rpick_r6) rpick_2)
abbrev rpick_r8 : List Sop := [⟨some 23, (.move (.tmp 0)), none⟩,
  ⟨some 24, (.move (.tmp 1)), none⟩,
  ⟨some 25, (.move (.tmp 7)), none⟩,
  ⟨some 26, (.indexAddr 26 (.tmp 24) (.tmp 25)), none⟩,
  ⟨some 27, (.load 22 (.tmp 26)), none⟩,
  ⟨some 28, (.move (.tmp 6)), none⟩,
  ⟨some 29, (.call { callee := (.value (.func 35)), args := #[(.tmp 23), (.tmp 27), (.tmp 28)], argTypes := #[30, 22, 22] }), none⟩]
abbrev rpick_r9 : List Sop := [⟨some 30, (.move (.tmp 5)), none⟩,
  ⟨some 31, (.move (.tmp 1)), none⟩,
  ⟨some 32, (.move (.tmp 7)), none⟩,
  ⟨some 33, (.indexAddr 26 (.tmp 31) (.tmp 32)), none⟩,
  ⟨some 34, (.load 22 (.tmp 33)), none⟩,
  ⟨some 35, (.buildSlice 26 1 #[(0, (.tmp 34))]), none⟩,
  ⟨some 36, (.call { callee := (.builtin .append), args := #[(.tmp 30), (.tmp 35)], argTypes := #[26, 26] }), none⟩,
  ⟨some 5, (.assign (.tmp 36)), none⟩]
abbrev rpick_4 : Cc := (.cond (.tmp 29) (.region rpick_r9) .skip)
abbrev rpick_5 : Cc := (.seq (.region rpick_r8) rpick_4)
abbrev rpick_6 : Cc := (.block 1 rpick_5)
abbrev rpick_r7 : List Sop := [⟨some 21, (.move (.tmp 7)), none⟩,
  ⟨some 22, (.binOp .add 3 (.tmp 21) (.const (.int .i64 1)) 3), none⟩,
  ⟨some 7, (.assign (.tmp 22)), none⟩]
abbrev rpick_7 : Cc := (.seq rpick_6 (.region rpick_r7))
abbrev rpick_8 : Cc := (.seq rpick_3 rpick_7)
abbrev rpick_9 : Cc := (.loop rpick_8)
abbrev rpick_10 : Cc := (.block 0 rpick_9)
abbrev rpick_11 : Cc := (.seq (.region rpick_r5) rpick_10)
abbrev rpick_r10 : List Sop := [⟨some 37, (.move (.tmp 5)), none⟩,
  ⟨some 4, (.assign (.tmp 37)), none⟩]
abbrev rpick_12 : Cc := (.seq (.region rpick_r10) .ret)
abbrev rpick_13 : Cc := (.seq rpick_11 rpick_12)
abbrev rpick_14 : Cc := (.seq rpick_1 rpick_13)
abbrev rpick_15 : Cc := (.seq (.region rpick_r2) rpick_14)
abbrev rpick_16 : Cc := (.seq (.region rpick_r1) rpick_15)
abbrev rpick : Cc := (.seq (.region rpick_r0) rpick_16)
theorem rpick_b : bodyC Try.f34 = rpick := by kernel_rfl
theorem rpick_k : cbl Try.prog 34 = true := by kernel_rfl
theorem rpick_res : Try.f34.results.toList = [(.tmp 4)] := by kernel_rfl
theorem rpick_o {ds : List D} {x : D} (hl : ds.length ≤ 38) (h : WC Try.prog [] rpick { n := 38, tm := numb 0 (ds.map .d), hp := [] } (retQ Try.prog [(.tmp 4)] [] (isD x))) : Pu Try.prog 34 ds x := Pu.ofWC (fn := Try.f34) rfl rpick_b (by simp) rpick_k Try.ntmps34 rpick_res hl h
/-- cubby/sets.Has -/
abbrev has_r0 : List Sop := [⟨some 6, (.assign (.const (.bool false))), none⟩]
abbrev has_r1 : List Sop := [⟨some 11, (.move (.tmp 0)), none⟩,
  ⟨some 12, (.call { callee := (.builtin .len), args := #[(.tmp 11)], argTypes := #[30] }), none⟩,
  ⟨some 13, (.move (.const (.int .i64 0))), none⟩]
abbrev has_r2 : List Sop := [⟨some 14, (.binOp .lss 3 (.tmp 13) (.tmp 12) 3), none⟩]
abbrev has_0 : Cc := (.cond (.tmp 14) .skip (.exit 0))
abbrev has_r3 : List Sop := [⟨some 15, (.indexAddr 30 (.tmp 11) (.tmp 13)), none⟩,
  ⟨some 16, (.load 43 (.tmp 15)), none⟩,
  ⟨some 8, (.alloc 43), none⟩,
  ⟨none, (.store 43 (.tmp 8) (.tmp 16)), none⟩]
abbrev has_r4 : List (Sop × Kd) := [(⟨some 17, (.fieldAddr 43 (.tmp 8) 0), none⟩, .pu),
  (⟨some 18, (.load 22 (.tmp 17)), none⟩, .pu),
  (⟨some 19, (.fieldAddr 43 (.tmp 8) 1), none⟩, .pu),
  (⟨some 20, (.load 22 (.tmp 19)), none⟩, .pu),
  (⟨some 9, (.assign (.tmp 18)), none⟩, .pu),
  (⟨some 10, (.assign (.tmp 20)), none⟩, .pu)]
abbrev has_r5 : List Sop := [⟨some 21, (.move (.tmp 9)), none⟩,
  ⟨some 22, (.binOp .eql 22 (.tmp 21) (.const (.int .u32 0)) 22), none⟩]
abbrev has_r6 : List Sop := [⟨some 23, (.move (.tmp 2)), none⟩,
  ⟨some 9, (.assign (.tmp 23)), none⟩]
abbrev has_1 : Cc := (.cond (.tmp 22) (.region has_r6) .skip)
abbrev has_2 : Cc := (.seq (.region has_r5) has_1)
abbrev has_r7 : List Sop := [⟨some 24, (.move (.tmp 10)), none⟩,
  ⟨some 25, (.binOp .eql 22 (.tmp 24) (.const (.int .u32 0)) 22), none⟩]
abbrev has_r8 : List Sop := [⟨some 26, (.move (.tmp 2)), none⟩,
  ⟨some 10, (.assign (.tmp 26)), none⟩]
abbrev has_3 : Cc := (.cond (.tmp 25) (.region has_r8) .skip)
abbrev has_4 : Cc := (.seq (.region has_r7) has_3)
abbrev has_r9 : List Sop := [⟨some 27, (.move (.tmp 1)), none⟩,
  ⟨some 28, (.binOp .gtr 22 (.tmp 27) (.const (.int .u32 0)) 22), none⟩,
  ⟨some 29, (.move (.tmp 28)), none⟩,
  ⟨some 30, (.move (.tmp 1)), some (29, true)⟩,
  ⟨some 31, (.move (.tmp 9)), some (29, true)⟩,
  ⟨some 32, (.move (.tmp 10)), some (29, true)⟩,
  ⟨some 33, (.call { callee := (.builtin .min), args := #[(.tmp 31), (.tmp 32)], argTypes := #[22, 22] }), some (29, true)⟩,
  ⟨some 34, (.binOp .geq 22 (.tmp 30) (.tmp 33) 22), some (29, true)⟩,
  ⟨some 35, (.pick (.tmp 29) (.tmp 34) (.const (.bool false))), none⟩,
  ⟨some 36, (.move (.tmp 35)), none⟩,
  ⟨some 37, (.move (.tmp 1)), some (36, true)⟩,
  ⟨some 38, (.move (.tmp 9)), some (36, true)⟩,
  ⟨some 39, (.move (.tmp 10)), some (36, true)⟩,
  ⟨some 40, (.call { callee := (.builtin .max), args := #[(.tmp 38), (.tmp 39)], argTypes := #[22, 22] }), some (36, true)⟩,
  ⟨some 41, (.binOp .leq 22 (.tmp 37) (.tmp 40) 22), some (36, true)⟩,
  ⟨some 42, (.pick (.tmp 36) (.tmp 41) (.const (.bool false))), none⟩]
abbrev has_r10 : List Sop := [⟨some 6, (.assign (.const (.bool true))), none⟩]
abbrev has_5 : Cc := (.seq (.region has_r10) .ret)
abbrev has_6 : Cc := (.cond (.tmp 42) has_5 .skip)
abbrev has_7 : Cc := (.seq (.region has_r9) has_6)
abbrev has_8 : Cc := (.seq has_4 has_7)
abbrev has_9 : Cc := (.seq has_2 has_8)
abbrev has_10 : Cc := (.seq (.draw has_r4) has_9)
abbrev has_11 : Cc := (.seq (.region has_r3) has_10)
abbrev has_12 : Cc := (.block 1 has_11)
abbrev has_r11 : List Sop := [⟨some 43, (.binOp .add 3 (.tmp 13) (.const (.int .i64 1)) 3), none⟩,
  ⟨some 13, (.move (.tmp 43)), none⟩]
abbrev has_13 : Cc := (.seq has_12 (.region has_r11))
abbrev has_14 : Cc := (.seq has_0 has_13)
abbrev has_15 : Cc := (.seq (.region has_r2) has_14)
abbrev has_16 : Cc := (.loop has_15)
abbrev has_17 : Cc := (.block 0 has_16)
abbrev has_18 : Cc := (.seq (.region has_r1) has_17)
abbrev has_r12 : List Sop := [⟨some 6, (.assign (.const (.bool false))), none⟩]
abbrev has_19 : Cc := (.seq (.region has_r12) .ret)
abbrev has_20 : Cc := (.seq has_18 has_19)
abbrev has : Cc := (.seq (.region has_r0) has_20)
theorem has_b : bodyC Try.f33 = has := by kernel_rfl
theorem has_k : cbl Try.prog 33 = true := by kernel_rfl
theorem has_res : Try.f33.results.toList = [(.tmp 6)] := by kernel_rfl
theorem has_o {ds : List D} {x : D} (hl : ds.length ≤ 44) (h : WC Try.prog [] has { n := 44, tm := numb 0 (ds.map .d), hp := [] } (retQ Try.prog [(.tmp 6)] [] (isD x))) : Pu Try.prog 33 ds x := Pu.ofWC (fn := Try.f33) rfl has_b (by simp) has_k Try.ntmps33 has_res hl h
/-- cubby/sets.Pick -/
abbrev pick_r0 : List Sop := [⟨some 4, (.assign (.const (.slice none 0 0))), none⟩]
abbrev pick_r1 : List Sop := [⟨some 5, (.assign (.const (.slice none 0 0))), none⟩]
abbrev pick_r2 : List Sop := [⟨some 8, (.move (.tmp 1)), none⟩,
  ⟨some 9, (.call { callee := (.builtin .len), args := #[(.tmp 8)], argTypes := #[26] }), none⟩,
  ⟨some 10, (.move (.const (.int .i64 0))), none⟩]
abbrev pick_r3 : List Sop := [⟨some 11, (.binOp .lss 3 (.tmp 10) (.tmp 9) 3), none⟩]
abbrev pick_0 : Cc := (.cond (.tmp 11) .skip (.exit 0))
abbrev pick_r4 : List Sop := [⟨some 12, (.indexAddr 26 (.tmp 8) (.tmp 10)), none⟩,
  ⟨some 13, (.load 22 (.tmp 12)), none⟩,
  ⟨some 7, (.assign (.tmp 13)), none⟩]
abbrev pick_r5 : List Sop := [⟨some 14, (.move (.tmp 0)), none⟩,
  ⟨some 15, (.move (.tmp 7)), none⟩,
  ⟨some 16, (.move (.tmp 1)), none⟩,
  ⟨some 17, (.move (.tmp 1)), none⟩,
  ⟨some 18, (.call { callee := (.builtin .len), args := #[(.tmp 17)], argTypes := #[26] }), none⟩,
  ⟨some 19, (.binOp .sub 3 (.tmp 18) (.const (.int .i64 1)) 3), none⟩,
  ⟨some 20, (.indexAddr 26 (.tmp 16) (.tmp 19)), none⟩,
  ⟨some 21, (.load 22 (.tmp 20)), none⟩,
  ⟨some 22, (.call { callee := (.value (.func 33)), args := #[(.tmp 14), (.tmp 15), (.tmp 21)], argTypes := #[30, 22, 22] }), none⟩]
abbrev pick_r6 : List Sop := [⟨some 23, (.move (.tmp 5)), none⟩,
  ⟨some 24, (.move (.tmp 7)), none⟩,
  ⟨some 25, (.buildSlice 26 1 #[(0, (.tmp 24))]), none⟩,
  ⟨some 26, (.call { callee := (.builtin .append), args := #[(.tmp 23), (.tmp 25)], argTypes := #[26, 26] }), none⟩,
  ⟨some 5, (.assign (.tmp 26)), none⟩]
abbrev pick_1 : Cc := (.cond (.tmp 22) (.region pick_r6) .skip)
abbrev pick_2 : Cc := (.seq (.region pick_r5) pick_1)
abbrev pick_3 : Cc := (.seq (.region pick_r4) pick_2)
abbrev pick_4 : Cc := (.block 1 pick_3)
abbrev pick_r7 : List Sop := [⟨some 27, (.binOp .add 3 (.tmp 10) (.const (.int .i64 1)) 3), none⟩,
  ⟨some 10, (.move (.tmp 27)), none⟩]
abbrev pick_5 : Cc := (.seq pick_4 (.region pick_r7))
abbrev pick_6 : Cc := (.seq pick_0 pick_5)
abbrev pick_7 : Cc := (.seq (.region pick_r3) pick_6)
abbrev pick_8 : Cc := (.loop pick_7)
abbrev pick_9 : Cc := (.block 0 pick_8)
abbrev pick_10 : Cc := (.seq (.region pick_r2) pick_9)
abbrev pick_r8 : List Sop := [⟨some 28, (.move (.tmp 5)), none⟩,
  ⟨some 4, (.assign (.tmp 28)), none⟩]
abbrev pick_11 : Cc := (.seq (.region pick_r8) .ret)
abbrev pick_12 : Cc := (.seq pick_10 pick_11)
abbrev pick_13 : Cc := (.seq (.region pick_r1) pick_12)
abbrev pick : Cc := (.seq (.region pick_r0) pick_13)
theorem pick_b : bodyC Try.f32 = pick := by kernel_rfl
theorem pick_k : cbl Try.prog 32 = true := by kernel_rfl
theorem pick_res : Try.f32.results.toList = [(.tmp 4)] := by kernel_rfl
theorem pick_o {ds : List D} {x : D} (hl : ds.length ≤ 29) (h : WC Try.prog [] pick { n := 29, tm := numb 0 (ds.map .d), hp := [] } (retQ Try.prog [(.tmp 4)] [] (isD x))) : Pu Try.prog 32 ds x := Pu.ofWC (fn := Try.f32) rfl pick_b (by simp) pick_k Try.ntmps32 pick_res hl h
/-- cubby/view.Uids -/
abbrev uids_r0 : List Sop := [⟨some 3, (.box 29 (.tmp 0)), none⟩,
  ⟨some 6, (.assign (.const (.slice none 0 0))), none⟩]
abbrev uids_r1 : List Sop := [⟨some 10, (.move (.tmp 2)), none⟩]
abbrev uids_r2 : List Sop := [⟨some 11, (.move (.tmp 1)), none⟩,
  ⟨some 12, (.fieldAddr 29 (.tmp 3) 3), none⟩,
  ⟨some 13, (.load 26 (.tmp 12)), none⟩,
  ⟨some 14, (.call { callee := (.value (.func 32)), args := #[(.tmp 11), (.tmp 13)], argTypes := #[30, 26] }), none⟩,
  ⟨some 6, (.assign (.tmp 14)), none⟩]
abbrev uids_0 : Cc := (.seq (.region uids_r2) .ret)
abbrev uids_1 : Cc := (.cond (.tmp 10) uids_0 .skip)
abbrev uids_2 : Cc := (.seq (.region uids_r1) uids_1)
abbrev uids_r3 : List Sop := [⟨some 7, (.assign (.const (.slice none 0 0))), none⟩]
abbrev uids_r4 : List Sop := [⟨some 15, (.fieldAddr 29 (.tmp 3) 3), none⟩,
  ⟨some 16, (.load 26 (.tmp 15)), none⟩,
  ⟨some 17, (.call { callee := (.builtin .len), args := #[(.tmp 16)], argTypes := #[26] }), none⟩,
  ⟨some 18, (.move (.const (.int .i64 0))), none⟩]
abbrev uids_r5 : List Sop := [⟨some 19, (.binOp .lss 3 (.tmp 18) (.tmp 17) 3), none⟩]
abbrev uids_3 : Cc := (.cond (.tmp 19) .skip (.exit 0))
abbrev uids_r6 : List Sop := [⟨some 20, (.move (.tmp 18)), none⟩,
  ⟨some 21, (.indexAddr 26 (.tmp 16) (.tmp 18)), none⟩,
  ⟨some 22, (.load 22 (.tmp 21)), none⟩,
  ⟨some 8, (.assign (.tmp 20)), none⟩,
  ⟨some 9, (.assign (.tmp 22)), none⟩]
abbrev uids_r7 : List Sop := [⟨some 23, (.move (.tmp 1)), none⟩,
  ⟨some 24, (.move (.tmp 8)), none⟩,
  ⟨some 25, (.binOp .add 3 (.tmp 24) (.const (.int .i64 1)) 3), none⟩,
  ⟨some 26, (.convert 3 22 (.tmp 25)), none⟩,
  ⟨some 27, (.fieldAddr 29 (.tmp 3) 3), none⟩,
  ⟨some 28, (.load 26 (.tmp 27)), none⟩,
  ⟨some 29, (.call { callee := (.builtin .len), args := #[(.tmp 28)], argTypes := #[26] }), none⟩,
  ⟨some 30, (.convert 3 22 (.tmp 29)), none⟩,
  ⟨some 31, (.call { callee := (.value (.func 33)), args := #[(.tmp 23), (.tmp 26), (.tmp 30)], argTypes := #[30, 22, 22] }), none⟩]
abbrev uids_r8 : List Sop := [⟨some 32, (.move (.tmp 7)), none⟩,
  ⟨some 33, (.move (.tmp 9)), none⟩,
  ⟨some 34, (.buildSlice 26 1 #[(0, (.tmp 33))]), none⟩,
  ⟨some 35, (.call { callee := (.builtin .append), args := #[(.tmp 32), (.tmp 34)], argTypes := #[26, 26] }), none⟩,
  ⟨some 7, (.assign (.tmp 35)), none⟩]
abbrev uids_4 : Cc := (.cond (.tmp 31) (.region uids_r8) .skip)
abbrev uids_5 : Cc := (.seq (.region uids_r7) uids_4)
abbrev uids_6 : Cc := (.seq (.region uids_r6) uids_5)
abbrev uids_7 : Cc := (.block 1 uids_6)
abbrev uids_r9 : List Sop := [⟨some 36, (.binOp .add 3 (.tmp 18) (.const (.int .i64 1)) 3), none⟩,
  ⟨some 18, (.move (.tmp 36)), none⟩]
abbrev uids_8 : Cc := (.seq uids_7 (.region uids_r9))
abbrev uids_9 : Cc := (.seq uids_3 uids_8)
abbrev uids_10 : Cc := (.seq (.region uids_r5) uids_9)
abbrev uids_11 : Cc := (.loop uids_10)
abbrev uids_12 : Cc := (.block 0 uids_11)
abbrev uids_13 : Cc := (.seq (.region uids_r4) uids_12)
abbrev uids_r10 : List Sop := [⟨some 37, (.move (.tmp 7)), none⟩,
  ⟨some 6, (.assign (.tmp 37)), none⟩]
abbrev uids_14 : Cc := (.seq (.region uids_r10) .ret)
abbrev uids_15 : Cc := (.seq uids_13 uids_14)
abbrev uids_16 : Cc := (.seq (.region uids_r3) uids_15)
abbrev uids_17 : Cc := (.seq uids_2 uids_16)
abbrev uids : Cc := (.seq (.region uids_r0) uids_17)
theorem uids_b : bodyC Try.f17 = uids := by kernel_rfl
theorem uids_k : cbl Try.prog 17 = true := by kernel_rfl
theorem uids_res : Try.f17.results.toList = [(.tmp 6)] := by kernel_rfl
theorem uids_o {ds : List D} {x : D} (hl : ds.length ≤ 38) (h : WC Try.prog [] uids { n := 38, tm := numb 0 (ds.map .d), hp := [] } (retQ Try.prog [(.tmp 6)] [] (isD x))) : Pu Try.prog 17 ds x := Pu.ofWC (fn := Try.f17) rfl uids_b (by simp) uids_k Try.ntmps17 uids_res hl h
/-- cubby/view.Number -/
abbrev number_r0 : List Sop := [⟨some 2, (.box 29 (.tmp 0)), none⟩,
  ⟨some 4, (.assign (.const (.int .i64 0))), none⟩]
abbrev number_r1 : List Sop := [⟨some 5, (.fieldAddr 29 (.tmp 2) 3), none⟩,
  ⟨some 6, (.load 26 (.tmp 5)), none⟩,
  ⟨some 7, (.move (.tmp 1)), none⟩,
  ⟨some 8, (.call { callee := (.value (.func 29)), args := #[(.tmp 6), (.tmp 7)], argTypes := #[26, 22] }), none⟩,
  ⟨some 9, (.binOp .add 3 (.tmp 8) (.const (.int .i64 1)) 3), none⟩,
  ⟨some 4, (.assign (.tmp 9)), none⟩]
abbrev number_0 : Cc := (.seq (.region number_r1) .ret)
abbrev number : Cc := (.seq (.region number_r0) number_0)
theorem number_b : bodyC Try.f14 = number := by kernel_rfl
theorem number_k : cbl Try.prog 14 = true := by kernel_rfl
theorem number_res : Try.f14.results.toList = [(.tmp 4)] := by kernel_rfl
theorem number_o {ds : List D} {x : D} (hl : ds.length ≤ 10) (h : WC Try.prog [] number { n := 10, tm := numb 0 (ds.map .d), hp := [] } (retQ Try.prog [(.tmp 4)] [] (isD x))) : Pu Try.prog 14 ds x := Pu.ofWC (fn := Try.f14) rfl number_b (by simp) number_k Try.ntmps14 number_res hl h
/-- cubby/cubbylaw24.ViewNumbers -/
abbrev law_r0 : List Sop := [⟨some 2, (.box 29 (.tmp 0)), none⟩,
  ⟨some 4, (.assign (.const (.bool false))), none⟩]
abbrev law_r1 : List Sop := [⟨some 9, (.call { callee := (.value (.func 5)), args := #[], argTypes := #[] }), none⟩,
  ⟨some 10, (.unOp .not 4 (.tmp 9)), none⟩,
  ⟨some 11, (.move (.tmp 10)), none⟩,
  ⟨some 12, (.load 29 (.tmp 2)), some (11, false)⟩,
  ⟨some 13, (.call { callee := (.value (.func 12)), args := #[(.tmp 12)], argTypes := #[29] }), some (11, false)⟩,
  ⟨some 14, (.unOp .not 4 (.tmp 13)), some (11, false)⟩,
  ⟨some 15, (.pick (.tmp 11) (.const (.bool true)) (.tmp 14)), none⟩,
  ⟨some 16, (.move (.tmp 15)), none⟩,
  ⟨some 17, (.fieldAddr 29 (.tmp 2) 3), some (16, false)⟩,
  ⟨some 18, (.load 26 (.tmp 17)), some (16, false)⟩,
  ⟨some 19, (.call { callee := (.builtin .len), args := #[(.tmp 18)], argTypes := #[26] }), some (16, false)⟩,
  ⟨some 20, (.binOp .gtr 3 (.tmp 19) (.const (.int .i64 300)) 3), some (16, false)⟩,
  ⟨some 21, (.pick (.tmp 16) (.const (.bool true)) (.tmp 20)), none⟩]
abbrev law_r2 : List Sop := [⟨some 22, (.call { callee := (.value (.func 5)), args := #[], argTypes := #[] }), none⟩,
  ⟨some 4, (.assign (.tmp 22)), none⟩]
abbrev law_0 : Cc := (.seq (.region law_r2) .ret)
abbrev law_1 : Cc := (.cond (.tmp 21) law_0 .skip)
abbrev law_2 : Cc := (.seq (.region law_r1) law_1)
abbrev law_r3 : List Sop := [⟨some 23, (.build 43 #[(0, (.const (.int .u32 1))), (1, (.const (.int .u32 0)))]), none⟩,
  ⟨some 24, (.buildSlice 30 1 #[(0, (.tmp 23))]), none⟩,
  ⟨some 5, (.assign (.tmp 24)), none⟩]
abbrev law_r4 : List (Sop × Kd) := [(⟨some 25, (.load 29 (.tmp 2)), none⟩, .pu),
  (⟨some 26, (.move (.tmp 5)), none⟩, .pu),
  (⟨some 28, (.fieldAddr 29 (.tmp 2) 3), none⟩, .la [2]),
  (⟨some 29, (.load 26 (.tmp 28)), none⟩, .la [28]),
  (⟨some 27, (.call { callee := (.value (.func 17)), args := #[(.tmp 25), (.tmp 26), (.const (.bool false))], argTypes := #[29, 30, 4] }), none⟩, .ch [29, 28] true),
  (⟨some 30, (.call { callee := (.value (.func 16)), args := #[(.tmp 27), (.tmp 29)], argTypes := #[26, 26] }), none⟩, .ch [] false),
  (⟨some 31, (.unOp .not 4 (.tmp 30)), none⟩, .pu),
  (⟨some 32, (.move (.tmp 31)), none⟩, .pu),
  (⟨some 33, (.load 29 (.tmp 2)), some (32, false)⟩, .pu),
  (⟨some 34, (.move (.tmp 5)), some (32, false)⟩, .pu),
  (⟨some 36, (.fieldAddr 29 (.tmp 2) 3), some (32, false)⟩, .la [2, 32]),
  (⟨some 37, (.load 26 (.tmp 36)), some (32, false)⟩, .la [36, 32]),
  (⟨some 35, (.call { callee := (.value (.func 17)), args := #[(.tmp 33), (.tmp 34), (.const (.bool true))], argTypes := #[29, 30, 4] }), some (32, false)⟩, .ch [37, 36] true),
  (⟨some 38, (.call { callee := (.value (.func 16)), args := #[(.tmp 35), (.tmp 37)], argTypes := #[26, 26] }), some (32, false)⟩, .ch [] false),
  (⟨some 39, (.unOp .not 4 (.tmp 38)), some (32, false)⟩, .pu),
  (⟨some 40, (.pick (.tmp 32) (.const (.bool true)) (.tmp 39)), none⟩, .pu)]
abbrev law_r5 : List Sop := [⟨some 4, (.assign (.const (.bool false))), none⟩]
abbrev law_3 : Cc := (.seq (.region law_r5) .ret)
abbrev law_4 : Cc := (.cond (.tmp 40) law_3 .skip)
abbrev law_5 : Cc := (.seq (.draw law_r4) law_4)
abbrev law_r6 : List Sop := [⟨some 41, (.load 29 (.tmp 2)), none⟩,
  ⟨some 42, (.move (.tmp 1)), none⟩,
  ⟨some 43, (.call { callee := (.value (.func 14)), args := #[(.tmp 41), (.tmp 42)], argTypes := #[29, 22] }), none⟩,
  ⟨some 6, (.assign (.tmp 43)), none⟩]
abbrev law_r7 : List Sop := [⟨some 44, (.move (.tmp 6)), none⟩,
  ⟨some 45, (.binOp .eql 3 (.tmp 44) (.const (.int .i64 0)) 3), none⟩]
abbrev law_r8 : List Sop := [⟨some 46, (.fieldAddr 29 (.tmp 2) 3), none⟩,
  ⟨some 47, (.load 26 (.tmp 46)), none⟩,
  ⟨some 48, (.move (.tmp 1)), none⟩,
  ⟨some 49, (.call { callee := (.value (.func 19)), args := #[(.tmp 47), (.tmp 48)], argTypes := #[26, 22] }), none⟩,
  ⟨some 50, (.unOp .not 4 (.tmp 49)), none⟩,
  ⟨some 4, (.assign (.tmp 50)), none⟩]
abbrev law_6 : Cc := (.seq (.region law_r8) .ret)
abbrev law_7 : Cc := (.cond (.tmp 45) law_6 .skip)
abbrev law_8 : Cc := (.seq (.region law_r7) law_7)
abbrev law_r9 : List Sop := [⟨some 51, (.move (.tmp 6)), none⟩,
  ⟨some 52, (.convert 3 22 (.tmp 51)), none⟩,
  ⟨some 53, (.move (.tmp 6)), none⟩,
  ⟨some 54, (.convert 3 22 (.tmp 53)), none⟩,
  ⟨some 55, (.build 43 #[(0, (.tmp 52)), (1, (.tmp 54))]), none⟩,
  ⟨some 56, (.buildSlice 30 1 #[(0, (.tmp 55))]), none⟩,
  ⟨some 7, (.assign (.tmp 56)), none⟩]
abbrev law_r10 : List Sop := [⟨some 57, (.load 29 (.tmp 2)), none⟩,
  ⟨some 58, (.move (.tmp 7)), none⟩,
  ⟨some 59, (.call { callee := (.value (.func 17)), args := #[(.tmp 57), (.tmp 58), (.const (.bool false))], argTypes := #[29, 30, 4] }), none⟩,
  ⟨some 8, (.assign (.tmp 59)), none⟩]
abbrev law_r11 : List Sop := [⟨some 60, (.move (.tmp 8)), none⟩,
  ⟨some 61, (.call { callee := (.builtin .len), args := #[(.tmp 60)], argTypes := #[26] }), none⟩,
  ⟨some 62, (.binOp .eql 3 (.tmp 61) (.const (.int .i64 1)) 3), none⟩,
  ⟨some 63, (.move (.tmp 62)), none⟩,
  ⟨some 64, (.move (.tmp 8)), some (63, true)⟩,
  ⟨some 65, (.indexAddr 26 (.tmp 64) (.const (.int .i64 0))), some (63, true)⟩,
  ⟨some 66, (.load 22 (.tmp 65)), some (63, true)⟩,
  ⟨some 67, (.move (.tmp 1)), some (63, true)⟩,
  ⟨some 68, (.binOp .eql 22 (.tmp 66) (.tmp 67) 22), some (63, true)⟩,
  ⟨some 69, (.pick (.tmp 63) (.tmp 68) (.const (.bool false))), none⟩,
  ⟨some 70, (.move (.tmp 69)), none⟩,
  ⟨some 71, (.fieldAddr 29 (.tmp 2) 3), some (70, true)⟩,
  ⟨some 72, (.load 26 (.tmp 71)), some (70, true)⟩,
  ⟨some 73, (.move (.tmp 6)), some (70, true)⟩,
  ⟨some 74, (.binOp .sub 3 (.tmp 73) (.const (.int .i64 1)) 3), some (70, true)⟩,
  ⟨some 75, (.indexAddr 26 (.tmp 72) (.tmp 74)), some (70, true)⟩,
  ⟨some 76, (.load 22 (.tmp 75)), some (70, true)⟩,
  ⟨some 77, (.move (.tmp 1)), some (70, true)⟩,
  ⟨some 78, (.binOp .eql 22 (.tmp 76) (.tmp 77) 22), some (70, true)⟩,
  ⟨some 79, (.pick (.tmp 70) (.tmp 78) (.const (.bool false))), none⟩,
  ⟨some 4, (.assign (.tmp 79)), none⟩]
abbrev law_9 : Cc := (.seq (.region law_r11) .ret)
abbrev law_10 : Cc := (.seq (.region law_r10) law_9)
abbrev law_11 : Cc := (.seq (.region law_r9) law_10)
abbrev law_12 : Cc := (.seq law_8 law_11)
abbrev law_13 : Cc := (.seq (.region law_r6) law_12)
abbrev law_14 : Cc := (.seq law_5 law_13)
abbrev law_15 : Cc := (.seq (.region law_r3) law_14)
abbrev law_16 : Cc := (.seq law_2 law_15)
abbrev law : Cc := (.seq (.region law_r0) law_16)
theorem law_b : bodyC Try.f4 = law := by kernel_rfl
theorem law_k : cbl Try.prog 4 = true := by kernel_rfl
theorem law_res : Try.f4.results.toList = [(.tmp 4)] := by kernel_rfl
theorem law_o {ds : List D} {x : D} (hl : ds.length ≤ 80) (h : WC Try.prog [] law { n := 80, tm := numb 0 (ds.map .d), hp := [] } (retQ Try.prog [(.tmp 4)] [] (isD x))) : Pu Try.prog 4 ds x := Pu.ofWC (fn := Try.f4) rfl law_b (by simp) law_k Try.ntmps4 law_res hl h
/-- cubby/cubbyhelp.In[uint32] -/
abbrev isin_r0 : List Sop := [⟨some 4, (.assign (.const (.bool false))), none⟩]
abbrev isin_r1 : List Sop := [⟨some 5, (.assign (.const (.int .i64 0))), none⟩]
abbrev isin_r2 : List Sop := [⟨some 6, (.move (.tmp 5)), none⟩,
  ⟨some 7, (.move (.tmp 0)), none⟩,
  ⟨some 8, (.call { callee := (.builtin .len), args := #[(.tmp 7)], argTypes := #[26] }), none⟩,
  ⟨some 9, (.binOp .lss 3 (.tmp 6) (.tmp 8) 3), none⟩]
abbrev isin_0 : Cc := (.cond (.tmp 9) .skip (.exit 0))
abbrev isin_1 : Cc := (.seq (.region isin_r2) isin_0)
abbrev isin_r4 : List Sop := [⟨some 12, (.move (.tmp 0)), none⟩,
  ⟨some 13, (.move (.tmp 5)), none⟩,
  ⟨some 14, (.indexAddr 26 (.tmp 12) (.tmp 13)), none⟩,
  ⟨some 15, (.load 22 (.tmp 14)), none⟩,
  ⟨some 16, (.move (.tmp 1)), none⟩,
  ⟨some 17, (.binOp .eql 22 (.tmp 15) (.tmp 16) 22), none⟩]
abbrev isin_r5 : List Sop := [⟨some 4, (.assign (.const (.bool true))), none⟩]
abbrev isin_2 : Cc := (.seq (.region isin_r5) .ret)
abbrev isin_3 : Cc := (.cond (.tmp 17) isin_2 .skip)
abbrev isin_4 : Cc := (.seq (.region isin_r4) isin_3)
abbrev isin_5 : Cc := (.block 1 isin_4)
abbrev isin_r3 : List Sop := [⟨some 10, (.move (.tmp 5)), none⟩,
  ⟨some 11, (.binOp .add 3 (.tmp 10) (.const (.int .i64 1)) 3), none⟩,
  ⟨some 5, (.assign (.tmp 11)), none⟩]
abbrev isin_6 : Cc := (.seq isin_5 (.region isin_r3))
abbrev isin_7 : Cc := (.seq isin_1 isin_6)
abbrev isin_8 : Cc := (.loop isin_7)
abbrev isin_9 : Cc := (.block 0 isin_8)
abbrev isin_10 : Cc := (.seq (.region isin_r1) isin_9)
abbrev isin_r6 : List Sop := [⟨some 4, (.assign (.const (.bool false))), none⟩]
abbrev isin_11 : Cc := (.seq (.region isin_r6) .ret)
abbrev isin_12 : Cc := (.seq isin_10 isin_11)
abbrev isin : Cc := (.seq (.region isin_r0) isin_12)
theorem isin_b : bodyC Try.f19 = isin := by kernel_rfl
theorem isin_k : cbl Try.prog 19 = true := by kernel_rfl
theorem isin_res : Try.f19.results.toList = [(.tmp 4)] := by kernel_rfl
theorem isin_o {ds : List D} {x : D} (hl : ds.length ≤ 18) (h : WC Try.prog [] isin { n := 18, tm := numb 0 (ds.map .d), hp := [] } (retQ Try.prog [(.tmp 4)] [] (isD x))) : Pu Try.prog 19 ds x := Pu.ofWC (fn := Try.f19) rfl isin_b (by simp) isin_k Try.ntmps19 isin_res hl h
/-- cubby/cubbyhelp.Plain[uint32] -/
abbrev plain32_r0 : List Sop := [⟨some 4, (.assign (.const (.bool false))), none⟩]
abbrev plain32_r1 : List Sop := [⟨some 5, (.move (.tmp 0)), none⟩,
  ⟨some 6, (.move (.tmp 1)), none⟩,
  ⟨some 7, (.call { callee := (.value (.func 30)), args := #[(.tmp 5), (.tmp 6), (.func 31)], argTypes := #[26, 26, 60] }), none⟩,
  ⟨some 4, (.assign (.tmp 7)), none⟩]
abbrev plain32_0 : Cc := (.seq (.region plain32_r1) .ret)
abbrev plain32 : Cc := (.seq (.region plain32_r0) plain32_0)
theorem plain32_b : bodyC Try.f16 = plain32 := by kernel_rfl
theorem plain32_k : cbl Try.prog 16 = true := by kernel_rfl
theorem plain32_res : Try.f16.results.toList = [(.tmp 4)] := by kernel_rfl
theorem plain32_o {ds : List D} {x : D} (hl : ds.length ≤ 8) (h : WC Try.prog [] plain32 { n := 8, tm := numb 0 (ds.map .d), hp := [] } (retQ Try.prog [(.tmp 4)] [] (isD x))) : Pu Try.prog 16 ds x := Pu.ofWC (fn := Try.f16) rfl plain32_b (by simp) plain32_k Try.ntmps16 plain32_res hl h
/-- cubby/cubbyhelp.Same[uint32] -/
abbrev same32_r0 : List Sop := [⟨some 6, (.assign (.const (.bool false))), none⟩]
abbrev same32_r1 : List Sop := [⟨some 8, (.move (.tmp 0)), none⟩,
  ⟨some 9, (.call { callee := (.builtin .len), args := #[(.tmp 8)], argTypes := #[26] }), none⟩,
  ⟨some 10, (.move (.tmp 1)), none⟩,
  ⟨some 11, (.call { callee := (.builtin .len), args := #[(.tmp 10)], argTypes := #[26] }), none⟩,
  ⟨some 12, (.binOp .neq 3 (.tmp 9) (.tmp 11) 3), none⟩]
abbrev same32_r2 : List Sop := [⟨some 6, (.assign (.const (.bool false))), none⟩]
abbrev same32_0 : Cc := (.seq (.region same32_r2) .ret)
abbrev same32_1 : Cc := (.cond (.tmp 12) same32_0 .skip)
abbrev same32_2 : Cc := (.seq (.region same32_r1) same32_1)
abbrev same32_r3 : List Sop := [⟨some 7, (.assign (.const (.int .i64 0))), none⟩]
abbrev same32_r4 : List Sop := [⟨some 13, (.move (.tmp 7)), none⟩,
  ⟨some 14, (.move (.tmp 0)), none⟩,
  ⟨some 15, (.call { callee := (.builtin .len), args := #[(.tmp 14)], argTypes := #[26] }), none⟩,
  ⟨some 16, (.binOp .lss 3 (.tmp 13) (.tmp 15) 3), none⟩]
abbrev same32_3 : Cc := (.cond (.tmp 16) .skip (.exit 0))
abbrev same32_4 : Cc := (.seq (.region same32_r4) same32_3)
abbrev same32_r6 : List (Sop × Kd) := [(⟨some 19, (.move (.tmp 2)), none⟩, .pu),
  (⟨some 20, (.move (.tmp 0)), none⟩, .pu),
  (⟨some 21, (.move (.tmp 7)), none⟩, .pu),
  (⟨some 22, (.indexAddr 26 (.tmp 20) (.tmp 21)), none⟩, .pu),
  (⟨some 23, (.load 22 (.tmp 22)), none⟩, .pu),
  (⟨some 24, (.move (.tmp 1)), none⟩, .pu),
  (⟨some 25, (.move (.tmp 7)), none⟩, .pu),
  (⟨some 26, (.indexAddr 26 (.tmp 24) (.tmp 25)), none⟩, .pu),
  (⟨some 27, (.load 22 (.tmp 26)), none⟩, .pu),
  (⟨some 28, (.call { callee := (.value (.tmp 19)), args := #[(.tmp 23), (.tmp 27)], argTypes := #[22, 22] }), none⟩, .ch [] false),
  (⟨some 29, (.unOp .not 4 (.tmp 28)), none⟩, .pu)]
abbrev same32_r7 : List Sop := [⟨some 6, (.assign (.const (.bool false))), none⟩]
abbrev same32_5 : Cc := (.seq (.region same32_r7) .ret)
abbrev same32_6 : Cc := (.cond (.tmp 29) same32_5 .skip)
abbrev same32_7 : Cc := (.seq (.draw same32_r6) same32_6)
abbrev same32_8 : Cc := (.block 1 same32_7)
abbrev same32_r5 : List Sop := [⟨some 17, (.move (.tmp 7)), none⟩,
  ⟨some 18, (.binOp .add 3 (.tmp 17) (.const (.int .i64 1)) 3), none⟩,
  ⟨some 7, (.assign (.tmp 18)), none⟩]
abbrev same32_9 : Cc := (.seq same32_8 (.region same32_r5))
abbrev same32_10 : Cc := (.seq same32_4 same32_9)
abbrev same32_11 : Cc := (.loop same32_10)
abbrev same32_12 : Cc := (.block 0 same32_11)
abbrev same32_13 : Cc := (.seq (.region same32_r3) same32_12)
abbrev same32_r8 : List Sop := [⟨some 6, (.assign (.const (.bool true))), none⟩]
abbrev same32_14 : Cc := (.seq (.region same32_r8) .ret)
abbrev same32_15 : Cc := (.seq same32_13 same32_14)
abbrev same32_16 : Cc := (.seq same32_2 same32_15)
abbrev same32 : Cc := (.seq (.region same32_r0) same32_16)
theorem same32_b : bodyC Try.f30 = same32 := by kernel_rfl
theorem same32_k : cbl Try.prog 30 = true := by kernel_rfl
theorem same32_res : Try.f30.results.toList = [(.tmp 6)] := by kernel_rfl
theorem same32_o {ds : List D} {x : D} (hl : ds.length ≤ 30) (h : WC Try.prog [] same32 { n := 30, tm := numb 0 (ds.map .d), hp := [] } (retQ Try.prog [(.tmp 6)] [] (isD x))) : Pu Try.prog 30 ds x := Pu.ofWC (fn := Try.f30) rfl same32_b (by simp) same32_k Try.ntmps30 same32_res hl h
/-- cubby/cubbyref24.Right -/
abbrev rright_r0 : List Sop := [⟨some 1, (.box 29 (.tmp 0)), none⟩,
  ⟨some 2, (.assign (.const (.bool false))), none⟩]
abbrev rright_r1 : List Sop := [⟨some 3, (.fieldAddr 29 (.tmp 1) 3), none⟩,
  ⟨some 4, (.load 26 (.tmp 3)), none⟩,
  ⟨some 5, (.call { callee := (.value (.func 26)), args := #[(.tmp 4)], argTypes := #[26] }), none⟩,
  ⟨some 6, (.move (.tmp 5)), none⟩,
  ⟨some 7, (.fieldAddr 29 (.tmp 1) 4), some (6, true)⟩,
  ⟨some 8, (.load 27 (.tmp 7)), some (6, true)⟩,
  ⟨some 9, (.call { callee := (.builtin .len), args := #[(.tmp 8)], argTypes := #[27] }), some (6, true)⟩,
  ⟨some 10, (.fieldAddr 29 (.tmp 1) 3), some (6, true)⟩,
  ⟨some 11, (.load 26 (.tmp 10)), some (6, true)⟩,
  ⟨some 12, (.call { callee := (.builtin .len), args := #[(.tmp 11)], argTypes := #[26] }), some (6, true)⟩,
  ⟨some 13, (.binOp .eql 3 (.tmp 9) (.tmp 12) 3), some (6, true)⟩,
  ⟨some 14, (.pick (.tmp 6) (.tmp 13) (.const (.bool false))), none⟩,
  ⟨some 2, (.assign (.tmp 14)), none⟩]
abbrev rright_0 : Cc := (.seq (.region rright_r1) .ret)
abbrev rright : Cc := (.seq (.region rright_r0) rright_0)
theorem rright_b : bodyC Try.f12 = rright := by kernel_rfl
theorem rright_k : cbl Try.prog 12 = true := by kernel_rfl
theorem rright_res : Try.f12.results.toList = [(.tmp 2)] := by kernel_rfl
theorem rright_o {ds : List D} {x : D} (hl : ds.length ≤ 15) (h : WC Try.prog [] rright { n := 15, tm := numb 0 (ds.map .d), hp := [] } (retQ Try.prog [(.tmp 2)] [] (isD x))) : Pu Try.prog 12 ds x := Pu.ofWC (fn := Try.f12) rfl rright_b (by simp) rright_k Try.ntmps12 rright_res hl h
/-- slices.Index[[]uint32,uint32] -/
abbrev index32_r0 : List Sop := [⟨some 4, (.assign (.const (.int .i64 0))), none⟩]
abbrev index32_r1 : List Sop := [⟨some 6, (.move (.tmp 0)), none⟩,
  ⟨some 7, (.call { callee := (.builtin .len), args := #[(.tmp 6)], argTypes := #[26] }), none⟩,
  ⟨some 8, (.move (.const (.int .i64 0))), none⟩]
abbrev index32_r2 : List Sop := [⟨some 9, (.binOp .lss 3 (.tmp 8) (.tmp 7) 3), none⟩]
abbrev index32_0 : Cc := (.cond (.tmp 9) .skip (.exit 0))
abbrev index32_r3 : List Sop := [⟨some 10, (.move (.tmp 8)), none⟩,
  ⟨some 5, (.assign (.tmp 10)), none⟩]
abbrev index32_r4 : List Sop := [⟨some 11, (.move (.tmp 1)), none⟩,
  ⟨some 12, (.move (.tmp 0)), none⟩,
  ⟨some 13, (.move (.tmp 5)), none⟩,
  ⟨some 14, (.indexAddr 26 (.tmp 12) (.tmp 13)), none⟩,
  ⟨some 15, (.load 22 (.tmp 14)), none⟩,
  ⟨some 16, (.binOp .eql 22 (.tmp 11) (.tmp 15) 22), none⟩]
abbrev index32_r5 : List Sop := [⟨some 17, (.move (.tmp 5)), none⟩,
  ⟨some 4, (.assign (.tmp 17)), none⟩]
abbrev index32_1 : Cc := (.seq (.region index32_r5) .ret)
abbrev index32_2 : Cc := (.cond (.tmp 16) index32_1 .skip)
abbrev index32_3 : Cc := (.seq (.region index32_r4) index32_2)
abbrev index32_4 : Cc := (.seq (.region index32_r3) index32_3)
abbrev index32_5 : Cc := (.block 1 index32_4)
abbrev index32_r6 : List Sop := [⟨some 18, (.binOp .add 3 (.tmp 8) (.const (.int .i64 1)) 3), none⟩,
  ⟨some 8, (.move (.tmp 18)), none⟩]
abbrev index32_6 : Cc := (.seq index32_5 (.region index32_r6))
abbrev index32_7 : Cc := (.seq index32_0 index32_6)
abbrev index32_8 : Cc := (.seq (.region index32_r2) index32_7)
abbrev index32_9 : Cc := (.loop index32_8)
abbrev index32_10 : Cc := (.block 0 index32_9)
abbrev index32_11 : Cc := (.seq (.region index32_r1) index32_10)
abbrev index32_r7 : List Sop := [⟨some 4, (.assign (.const (.int .i64 (-1)))), none⟩]
abbrev index32_12 : Cc := (.seq (.region index32_r7) .ret)
abbrev index32_13 : Cc := (.seq index32_11 index32_12)
abbrev index32 : Cc := (.seq (.region index32_r0) index32_13)
theorem index32_b : bodyC Try.f29 = index32 := by kernel_rfl
theorem index32_k : cbl Try.prog 29 = true := by kernel_rfl
theorem index32_res : Try.f29.results.toList = [(.tmp 4)] := by kernel_rfl
theorem index32_o {ds : List D} {x : D} (hl : ds.length ≤ 19) (h : WC Try.prog [] index32 { n := 19, tm := numb 0 (ds.map .d), hp := [] } (retQ Try.prog [(.tmp 4)] [] (isD x))) : Pu Try.prog 29 ds x := Pu.ofWC (fn := Try.f29) rfl index32_b (by simp) index32_k Try.ntmps29 index32_res hl h
/-- cubby/cubbylaw24.awake -/
abbrev awake_r0 : List Sop := [⟨some 0, (.assign (.const (.bool false))), none⟩]
abbrev awake_r1 : List Sop := [⟨some 2, (.build 49 #[(0, (.const (.int .u32 3)))]), none⟩,
  ⟨some 3, (.buildSlice 23 1 #[(0, (.tmp 2))]), none⟩,
  ⟨some 4, (.build 25 #[(0, (.const (.string { data := #[97] }))), (1, (.const (.int .u32 2))), (2, (.const (.int .u32 4))), (5, (.tmp 3))]), none⟩,
  ⟨some 5, (.call { callee := (.value (.func 9)), args := #[(.tmp 4), (.const (.bool true))], argTypes := #[25, 4] }), none⟩,
  ⟨some 1, (.alloc 29), none⟩,
  ⟨none, (.store 29 (.tmp 1) (.tmp 5)), none⟩]
abbrev awake_r2 : List Sop := [⟨some 6, (.fieldAddr 29 (.tmp 1) 0), none⟩,
  ⟨some 7, (.load 9 (.tmp 6)), none⟩,
  ⟨some 8, (.binOp .eql 9 (.tmp 7) (.const (.string { data := #[97] })) 9), none⟩,
  ⟨some 9, (.move (.tmp 8)), none⟩,
  ⟨some 10, (.fieldAddr 29 (.tmp 1) 3), some (9, true)⟩,
  ⟨some 11, (.load 26 (.tmp 10)), some (9, true)⟩,
  ⟨some 12, (.call { callee := (.builtin .len), args := #[(.tmp 11)], argTypes := #[26] }), some (9, true)⟩,
  ⟨some 13, (.binOp .eql 3 (.tmp 12) (.const (.int .i64 1)) 3), some (9, true)⟩,
  ⟨some 14, (.pick (.tmp 9) (.tmp 13) (.const (.bool false))), none⟩,
  ⟨some 15, (.move (.tmp 14)), none⟩,
  ⟨some 16, (.fieldAddr 29 (.tmp 1) 2), some (15, true)⟩,
  ⟨some 17, (.load 4 (.tmp 16)), some (15, true)⟩,
  ⟨some 18, (.pick (.tmp 15) (.tmp 17) (.const (.bool false))), none⟩,
  ⟨some 19, (.move (.tmp 18)), none⟩,
  ⟨some 20, (.load 29 (.tmp 1)), some (19, true)⟩,
  ⟨some 21, (.call { callee := (.value (.func 14)), args := #[(.tmp 20), (.const (.int .u32 3))], argTypes := #[29, 22] }), some (19, true)⟩,
  ⟨some 22, (.binOp .eql 3 (.tmp 21) (.const (.int .i64 1)) 3), some (19, true)⟩,
  ⟨some 23, (.pick (.tmp 19) (.tmp 22) (.const (.bool false))), none⟩,
  ⟨some 24, (.move (.tmp 23)), none⟩,
  ⟨some 25, (.load 29 (.tmp 1)), some (24, true)⟩,
  ⟨some 26, (.call { callee := (.value (.func 11)), args := #[(.tmp 25)], argTypes := #[29] }), some (24, true)⟩,
  ⟨some 27, (.pick (.tmp 24) (.tmp 26) (.const (.bool false))), none⟩,
  ⟨some 0, (.assign (.tmp 27)), none⟩]
abbrev awake_0 : Cc := (.seq (.region awake_r2) .ret)
abbrev awake_1 : Cc := (.seq (.region awake_r1) awake_0)
abbrev awake : Cc := (.seq (.region awake_r0) awake_1)
theorem awake_b : bodyC Try.f5 = awake := by kernel_rfl
theorem awake_k : cbl Try.prog 5 = true := by kernel_rfl
theorem awake_res : Try.f5.results.toList = [(.tmp 0)] := by kernel_rfl
theorem awake_o {ds : List D} {x : D} (hl : ds.length ≤ 28) (h : WC Try.prog [] awake { n := 28, tm := numb 0 (ds.map .d), hp := [] } (retQ Try.prog [(.tmp 0)] [] (isD x))) : Pu Try.prog 5 ds x := Pu.ofWC (fn := Try.f5) rfl awake_b (by simp) awake_k Try.ntmps5 awake_res hl h
/-- cubby/view.Open -/
abbrev vopen_r0 : List Sop := [⟨some 2, (.box 25 (.tmp 0)), none⟩,
  ⟨some 4, (.alloc 29), none⟩]
abbrev vopen_r1 : List Sop := [⟨some 8, (.fieldAddr 25 (.tmp 2) 0), none⟩,
  ⟨some 9, (.load 9 (.tmp 8)), none⟩,
  ⟨some 10, (.fieldAddr 25 (.tmp 2) 1), none⟩,
  ⟨some 11, (.load 22 (.tmp 10)), none⟩,
  ⟨some 12, (.move (.tmp 1)), none⟩,
  ⟨some 13, (.build 29 #[(0, (.tmp 9)), (1, (.tmp 11)), (2, (.tmp 12))]), none⟩,
  ⟨some 5, (.alloc 29), none⟩,
  ⟨none, (.store 29 (.tmp 5) (.tmp 13)), none⟩]
abbrev vopen_r2 : List Sop := [⟨some 14, (.load 25 (.tmp 2)), none⟩,
  ⟨some 15, (.call { callee := (.value (.func 23)), args := #[(.tmp 14)], argTypes := #[25] }), none⟩,
  ⟨some 16, (.call { callee := (.builtin .len), args := #[(.tmp 15)], argTypes := #[23] }), none⟩,
  ⟨some 17, (.move (.const (.int .i64 0))), none⟩]
abbrev vopen_r3 : List Sop := [⟨some 18, (.binOp .lss 3 (.tmp 17) (.tmp 16) 3), none⟩]
abbrev vopen_0 : Cc := (.cond (.tmp 18) .skip (.exit 0))
abbrev vopen_r4 : List Sop := [⟨some 19, (.indexAddr 23 (.tmp 15) (.tmp 17)), none⟩,
  ⟨some 20, (.load 49 (.tmp 19)), none⟩,
  ⟨some 7, (.alloc 49), none⟩,
  ⟨none, (.store 49 (.tmp 7) (.tmp 20)), none⟩]
abbrev vopen_r5 : List Sop := [⟨some 21, (.fieldAddr 29 (.tmp 5) 3), none⟩,
  ⟨some 22, (.load 26 (.tmp 21)), none⟩,
  ⟨some 23, (.fieldAddr 49 (.tmp 7) 0), none⟩,
  ⟨some 24, (.load 22 (.tmp 23)), none⟩,
  ⟨some 25, (.buildSlice 26 1 #[(0, (.tmp 24))]), none⟩,
  ⟨some 26, (.call { callee := (.builtin .append), args := #[(.tmp 22), (.tmp 25)], argTypes := #[26, 26] }), none⟩,
  ⟨some 27, (.fieldAddr 29 (.tmp 5) 3), none⟩,
  ⟨none, (.store 26 (.tmp 27) (.tmp 26)), none⟩]
abbrev vopen_r6 : List Sop := [⟨some 28, (.fieldAddr 29 (.tmp 5) 4), none⟩,
  ⟨some 29, (.load 27 (.tmp 28)), none⟩,
  ⟨some 30, (.fieldAddr 49 (.tmp 7) 2), none⟩,
  ⟨some 31, (.load 46 (.tmp 30)), none⟩,
  ⟨some 32, (.buildSlice 27 1 #[(0, (.tmp 31))]), none⟩,
  ⟨some 33, (.call { callee := (.builtin .append), args := #[(.tmp 29), (.tmp 32)], argTypes := #[27, 27] }), none⟩,
  ⟨some 34, (.fieldAddr 29 (.tmp 5) 4), none⟩,
  ⟨none, (.store 27 (.tmp 34) (.tmp 33)), none⟩]
abbrev vopen_1 : Cc := (.seq (.region vopen_r5) (.region vopen_r6))
abbrev vopen_2 : Cc := (.seq (.region vopen_r4) vopen_1)
abbrev vopen_3 : Cc := (.block 1 vopen_2)
abbrev vopen_r7 : List Sop := [⟨some 35, (.binOp .add 3 (.tmp 17) (.const (.int .i64 1)) 3), none⟩,
  ⟨some 17, (.move (.tmp 35)), none⟩]
abbrev vopen_4 : Cc := (.seq vopen_3 (.region vopen_r7))
abbrev vopen_5 : Cc := (.seq vopen_0 vopen_4)
abbrev vopen_6 : Cc := (.seq (.region vopen_r3) vopen_5)
abbrev vopen_7 : Cc := (.loop vopen_6)
abbrev vopen_8 : Cc := (.block 0 vopen_7)
abbrev vopen_9 : Cc := (.seq (.region vopen_r2) vopen_8)
abbrev vopen_r8 : List Sop := [⟨some 36, (.load 29 (.tmp 5)), none⟩,
  ⟨none, (.store 29 (.tmp 4) (.tmp 36)), none⟩]
abbrev vopen_10 : Cc := (.seq (.region vopen_r8) .ret)
abbrev vopen_11 : Cc := (.seq vopen_9 vopen_10)
abbrev vopen_12 : Cc := (.seq (.region vopen_r1) vopen_11)
abbrev vopen : Cc := (.seq (.region vopen_r0) vopen_12)
theorem vopen_b : bodyC Try.f9 = vopen := by kernel_rfl
theorem vopen_k : cbl Try.prog 9 = true := by kernel_rfl
theorem vopen_res : Try.f9.results.toList = [(.cell 4 29)] := by kernel_rfl
theorem vopen_o {ds : List D} {x : D} (hl : ds.length ≤ 37) (h : WC Try.prog [] vopen { n := 37, tm := numb 0 (ds.map .d), hp := [] } (retQ Try.prog [(.cell 4 29)] [] (isD x))) : Pu Try.prog 9 ds x := Pu.ofWC (fn := Try.f9) rfl vopen_b (by simp) vopen_k Try.ntmps9 vopen_res hl h
/-- cubby/image.See -/
abbrev see_r0 : List Sop := [⟨some 1, (.box 25 (.tmp 0)), none⟩,
  ⟨some 2, (.assign (.const (.slice none 0 0))), none⟩]
abbrev see_r1 : List Sop := [⟨some 3, (.assign (.const (.slice none 0 0))), none⟩]
abbrev see_r2 : List Sop := [⟨some 6, (.fieldAddr 25 (.tmp 1) 5), none⟩,
  ⟨some 7, (.load 23 (.tmp 6)), none⟩,
  ⟨some 8, (.call { callee := (.builtin .len), args := #[(.tmp 7)], argTypes := #[23] }), none⟩,
  ⟨some 9, (.move (.const (.int .i64 0))), none⟩]
abbrev see_r3 : List Sop := [⟨some 10, (.binOp .lss 3 (.tmp 9) (.tmp 8) 3), none⟩]
abbrev see_0 : Cc := (.cond (.tmp 10) .skip (.exit 0))
abbrev see_r4 : List Sop := [⟨some 11, (.indexAddr 23 (.tmp 7) (.tmp 9)), none⟩,
  ⟨some 12, (.load 49 (.tmp 11)), none⟩,
  ⟨some 5, (.alloc 49), none⟩,
  ⟨none, (.store 49 (.tmp 5) (.tmp 12)), none⟩]
abbrev see_r5 : List Sop := [⟨some 13, (.fieldAddr 49 (.tmp 5) 7), none⟩,
  ⟨some 14, (.load 4 (.tmp 13)), none⟩,
  ⟨some 15, (.unOp .not 4 (.tmp 14)), none⟩]
abbrev see_r6 : List Sop := [⟨some 16, (.move (.tmp 3)), none⟩,
  ⟨some 17, (.load 49 (.tmp 5)), none⟩,
  ⟨some 18, (.call { callee := (.value (.func 38)), args := #[(.tmp 17)], argTypes := #[49] }), none⟩,
  ⟨some 19, (.buildSlice 23 1 #[(0, (.tmp 18))]), none⟩,
  ⟨some 20, (.call { callee := (.builtin .append), args := #[(.tmp 16), (.tmp 19)], argTypes := #[23, 23] }), none⟩,
  ⟨some 3, (.assign (.tmp 20)), none⟩]
abbrev see_1 : Cc := (.cond (.tmp 15) (.region see_r6) .skip)
abbrev see_2 : Cc := (.seq (.region see_r5) see_1)
abbrev see_3 : Cc := (.seq (.region see_r4) see_2)
abbrev see_4 : Cc := (.block 1 see_3)
abbrev see_r7 : List Sop := [⟨some 21, (.binOp .add 3 (.tmp 9) (.const (.int .i64 1)) 3), none⟩,
  ⟨some 9, (.move (.tmp 21)), none⟩]
abbrev see_5 : Cc := (.seq see_4 (.region see_r7))
abbrev see_6 : Cc := (.seq see_0 see_5)
abbrev see_7 : Cc := (.seq (.region see_r3) see_6)
abbrev see_8 : Cc := (.loop see_7)
abbrev see_9 : Cc := (.block 0 see_8)
abbrev see_10 : Cc := (.seq (.region see_r2) see_9)
abbrev see_r8 : List Sop := [⟨some 22, (.move (.tmp 3)), none⟩,
  ⟨some 2, (.assign (.tmp 22)), none⟩]
abbrev see_11 : Cc := (.seq (.region see_r8) .ret)
abbrev see_12 : Cc := (.seq see_10 see_11)
abbrev see_13 : Cc := (.seq (.region see_r1) see_12)
abbrev see : Cc := (.seq (.region see_r0) see_13)
theorem see_b : bodyC Try.f23 = see := by kernel_rfl
theorem see_k : cbl Try.prog 23 = true := by kernel_rfl
theorem see_res : Try.f23.results.toList = [(.tmp 2)] := by kernel_rfl
theorem see_o {ds : List D} {x : D} (hl : ds.length ≤ 23) (h : WC Try.prog [] see { n := 23, tm := numb 0 (ds.map .d), hp := [] } (retQ Try.prog [(.tmp 2)] [] (isD x))) : Pu Try.prog 23 ds x := Pu.ofWC (fn := Try.f23) rfl see_b (by simp) see_k Try.ntmps23 see_res hl h
/-- cubby/image.held -/
abbrev held_r0 : List Sop := [⟨some 1, (.box 49 (.tmp 0)), none⟩,
  ⟨some 2, (.alloc 49), none⟩]
abbrev held_r1 : List (Sop × Kd) := [(⟨some 3, (.fieldAddr 49 (.tmp 1) 2), none⟩, .pu),
  (⟨some 4, (.load 46 (.tmp 3)), none⟩, .pu),
  (⟨some 6, (.fieldAddr 49 (.tmp 1) 6), none⟩, .la [1]),
  (⟨some 7, (.load 47 (.tmp 6)), none⟩, .la [6]),
  (⟨some 5, (.call { callee := (.value (.func 40)), args := #[(.tmp 4)], argTypes := #[46] }), none⟩, .ch [7, 6] true),
  (⟨some 9, (.fieldAddr 49 (.tmp 1) 2), none⟩, .la [1]),
  (⟨some 8, (.call { callee := (.value (.func 41)), args := #[(.tmp 7)], argTypes := #[47] }), none⟩, .ch [9] true),
  (⟨none, (.store 46 (.tmp 9) (.tmp 5)), none⟩, .ch [] false),
  (⟨some 10, (.fieldAddr 49 (.tmp 1) 6), none⟩, .pu),
  (⟨none, (.store 47 (.tmp 10) (.tmp 8)), none⟩, .ch [] false)]
abbrev held_r2 : List Sop := [⟨some 11, (.load 49 (.tmp 1)), none⟩,
  ⟨none, (.store 49 (.tmp 2) (.tmp 11)), none⟩]
abbrev held_0 : Cc := (.seq (.region held_r2) .ret)
abbrev held_1 : Cc := (.seq (.draw held_r1) held_0)
abbrev held : Cc := (.seq (.region held_r0) held_1)
theorem held_b : bodyC Try.f38 = held := by kernel_rfl
theorem held_k : cbl Try.prog 38 = true := by kernel_rfl
theorem held_res : Try.f38.results.toList = [(.cell 2 49)] := by kernel_rfl
theorem held_o {ds : List D} {x : D} (hl : ds.length ≤ 12) (h : WC Try.prog [] held { n := 12, tm := numb 0 (ds.map .d), hp := [] } (retQ Try.prog [(.cell 2 49)] [] (isD x))) : Pu Try.prog 38 ds x := Pu.ofWC (fn := Try.f38) rfl held_b (by simp) held_k Try.ntmps38 held_res hl h
/-- cubby/view.Right -/
abbrev right_r0 : List Sop := [⟨some 1, (.box 29 (.tmp 0)), none⟩,
  ⟨some 2, (.assign (.const (.bool false))), none⟩]
abbrev right_r1 : List Sop := [⟨some 5, (.fieldAddr 29 (.tmp 1) 3), none⟩,
  ⟨some 6, (.load 26 (.tmp 5)), none⟩,
  ⟨some 7, (.call { callee := (.builtin .len), args := #[(.tmp 6)], argTypes := #[26] }), none⟩,
  ⟨some 8, (.move (.const (.int .i64 0))), none⟩]
abbrev right_r2 : List Sop := [⟨some 9, (.binOp .lss 3 (.tmp 8) (.tmp 7) 3), none⟩]
abbrev right_0 : Cc := (.cond (.tmp 9) .skip (.exit 0))
abbrev right_r3 : List Sop := [⟨some 10, (.move (.tmp 8)), none⟩,
  ⟨some 11, (.indexAddr 26 (.tmp 6) (.tmp 8)), none⟩,
  ⟨some 12, (.load 22 (.tmp 11)), none⟩,
  ⟨some 3, (.assign (.tmp 10)), none⟩,
  ⟨some 4, (.assign (.tmp 12)), none⟩]
abbrev right_r4 : List Sop := [⟨some 13, (.move (.tmp 4)), none⟩,
  ⟨some 14, (.binOp .eql 22 (.tmp 13) (.const (.int .u32 0)) 22), none⟩,
  ⟨some 15, (.move (.tmp 14)), none⟩,
  ⟨some 16, (.move (.tmp 3)), some (15, false)⟩,
  ⟨some 17, (.binOp .gtr 3 (.tmp 16) (.const (.int .i64 0)) 3), some (15, false)⟩,
  ⟨some 18, (.move (.tmp 17)), some (15, false)⟩,
  ⟨some 19, (.move (.tmp 4)), some (18, true)⟩,
  ⟨some 20, (.fieldAddr 29 (.tmp 1) 3), some (18, true)⟩,
  ⟨some 21, (.load 26 (.tmp 20)), some (18, true)⟩,
  ⟨some 22, (.move (.tmp 3)), some (18, true)⟩,
  ⟨some 23, (.binOp .sub 3 (.tmp 22) (.const (.int .i64 1)) 3), some (18, true)⟩,
  ⟨some 24, (.indexAddr 26 (.tmp 21) (.tmp 23)), some (18, true)⟩,
  ⟨some 25, (.load 22 (.tmp 24)), some (18, true)⟩,
  ⟨some 26, (.binOp .leq 22 (.tmp 19) (.tmp 25) 22), some (18, true)⟩,
  ⟨some 27, (.pick (.tmp 18) (.tmp 26) (.const (.bool false))), some (15, false)⟩,
  ⟨some 28, (.pick (.tmp 15) (.const (.bool true)) (.tmp 27)), none⟩]
abbrev right_r5 : List Sop := [⟨some 2, (.assign (.const (.bool false))), none⟩]
abbrev right_1 : Cc := (.seq (.region right_r5) .ret)
abbrev right_2 : Cc := (.cond (.tmp 28) right_1 .skip)
abbrev right_3 : Cc := (.seq (.region right_r4) right_2)
abbrev right_4 : Cc := (.seq (.region right_r3) right_3)
abbrev right_5 : Cc := (.block 1 right_4)
abbrev right_r6 : List Sop := [⟨some 29, (.binOp .add 3 (.tmp 8) (.const (.int .i64 1)) 3), none⟩,
  ⟨some 8, (.move (.tmp 29)), none⟩]
abbrev right_6 : Cc := (.seq right_5 (.region right_r6))
abbrev right_7 : Cc := (.seq right_0 right_6)
abbrev right_8 : Cc := (.seq (.region right_r2) right_7)
abbrev right_9 : Cc := (.loop right_8)
abbrev right_10 : Cc := (.block 0 right_9)
abbrev right_11 : Cc := (.seq (.region right_r1) right_10)
abbrev right_r7 : List Sop := [⟨some 30, (.fieldAddr 29 (.tmp 1) 3), none⟩,
  ⟨some 31, (.load 26 (.tmp 30)), none⟩,
  ⟨some 32, (.call { callee := (.builtin .len), args := #[(.tmp 31)], argTypes := #[26] }), none⟩,
  ⟨some 33, (.fieldAddr 29 (.tmp 1) 4), none⟩,
  ⟨some 34, (.load 27 (.tmp 33)), none⟩,
  ⟨some 35, (.call { callee := (.builtin .len), args := #[(.tmp 34)], argTypes := #[27] }), none⟩,
  ⟨some 36, (.binOp .eql 3 (.tmp 32) (.tmp 35) 3), none⟩,
  ⟨some 2, (.assign (.tmp 36)), none⟩]
abbrev right_12 : Cc := (.seq (.region right_r7) .ret)
abbrev right_13 : Cc := (.seq right_11 right_12)
abbrev right : Cc := (.seq (.region right_r0) right_13)
theorem right_b : bodyC Try.f11 = right := by kernel_rfl
theorem right_k : cbl Try.prog 11 = true := by kernel_rfl
theorem right_res : Try.f11.results.toList = [(.tmp 2)] := by kernel_rfl
theorem right_o {ds : List D} {x : D} (hl : ds.length ≤ 37) (h : WC Try.prog [] right { n := 37, tm := numb 0 (ds.map .d), hp := [] } (retQ Try.prog [(.tmp 2)] [] (isD x))) : Pu Try.prog 11 ds x := Pu.ofWC (fn := Try.f11) rfl right_b (by simp) right_k Try.ntmps11 right_res hl h
/-- cubby/cubbyhelp.Plain[uint32]$1 -/
abbrev eq32_r0 : List Sop := [⟨some 4, (.assign (.const (.bool false))), none⟩]
abbrev eq32_r1 : List Sop := [⟨some 5, (.move (.tmp 0)), none⟩,
  ⟨some 6, (.move (.tmp 1)), none⟩,
  ⟨some 7, (.binOp .eql 22 (.tmp 5) (.tmp 6) 22), none⟩,
  ⟨some 4, (.assign (.tmp 7)), none⟩]
abbrev eq32_0 : Cc := (.seq (.region eq32_r1) .ret)
abbrev eq32 : Cc := (.seq (.region eq32_r0) eq32_0)
theorem eq32_b : bodyC Try.f31 = eq32 := by kernel_rfl
theorem eq32_k : cbl Try.prog 31 = true := by kernel_rfl
theorem eq32_res : Try.f31.results.toList = [(.tmp 4)] := by kernel_rfl
theorem eq32_o {ds : List D} {x : D} (hl : ds.length ≤ 8) (h : WC Try.prog [] eq32 { n := 8, tm := numb 0 (ds.map .d), hp := [] } (retQ Try.prog [(.tmp 4)] [] (isD x))) : Pu Try.prog 31 ds x := Pu.ofWC (fn := Try.f31) rfl eq32_b (by simp) eq32_k Try.ntmps31 eq32_res hl h
/-- slices.Clone[[]string,string] -/
abbrev cloneS_r0 : List Sop := [⟨some 2, (.assign (.const (.slice none 0 0))), none⟩]
abbrev cloneS_r1 : List Sop := [⟨some 3, (.move (.tmp 0)), none⟩,
  ⟨some 4, (.binOp .eql 46 (.tmp 3) (.const (.slice none 0 0)) 46), none⟩]
abbrev cloneS_r2 : List Sop := [⟨some 2, (.assign (.const (.slice none 0 0))), none⟩]
abbrev cloneS_0 : Cc := (.seq (.region cloneS_r2) .ret)
abbrev cloneS_1 : Cc := (.cond (.tmp 4) cloneS_0 .skip)
abbrev cloneS_2 : Cc := (.seq (.region cloneS_r1) cloneS_1)
abbrev cloneS_r3 : List Sop := [⟨some 5, (.buildSlice 46 0 #[]), none⟩,
  ⟨some 6, (.move (.tmp 0)), none⟩,
  ⟨some 7, (.call { callee := (.builtin .append), args := #[(.tmp 5), (.tmp 6)], argTypes := #[46, 46] }), none⟩,
  ⟨some 2, (.assign (.tmp 7)), none⟩]
abbrev cloneS_3 : Cc := (.seq (.region cloneS_r3) .ret)
abbrev cloneS_4 : Cc := (.seq cloneS_2 cloneS_3)
abbrev cloneS : Cc := (.seq (.region cloneS_r0) cloneS_4)
theorem cloneS_b : bodyC Try.f40 = cloneS := by kernel_rfl
theorem cloneS_k : cbl Try.prog 40 = true := by kernel_rfl
theorem cloneS_res : Try.f40.results.toList = [(.tmp 2)] := by kernel_rfl
theorem cloneS_o {ds : List D} {x : D} (hl : ds.length ≤ 8) (h : WC Try.prog [] cloneS { n := 8, tm := numb 0 (ds.map .d), hp := [] } (retQ Try.prog [(.tmp 2)] [] (isD x))) : Pu Try.prog 40 ds x := Pu.ofWC (fn := Try.f40) rfl cloneS_b (by simp) cloneS_k Try.ntmps40 cloneS_res hl h
/-- slices.Clone[[]byte,byte] -/
abbrev cloneB_r0 : List Sop := [⟨some 2, (.assign (.const (.slice none 0 0))), none⟩]
abbrev cloneB_r1 : List Sop := [⟨some 3, (.move (.tmp 0)), none⟩,
  ⟨some 4, (.binOp .eql 47 (.tmp 3) (.const (.slice none 0 0)) 47), none⟩]
abbrev cloneB_r2 : List Sop := [⟨some 2, (.assign (.const (.slice none 0 0))), none⟩]
abbrev cloneB_0 : Cc := (.seq (.region cloneB_r2) .ret)
abbrev cloneB_1 : Cc := (.cond (.tmp 4) cloneB_0 .skip)
abbrev cloneB_2 : Cc := (.seq (.region cloneB_r1) cloneB_1)
abbrev cloneB_r3 : List Sop := [⟨some 5, (.buildSlice 47 0 #[]), none⟩,
  ⟨some 6, (.move (.tmp 0)), none⟩,
  ⟨some 7, (.call { callee := (.builtin .append), args := #[(.tmp 5), (.tmp 6)], argTypes := #[47, 47] }), none⟩,
  ⟨some 2, (.assign (.tmp 7)), none⟩]
abbrev cloneB_3 : Cc := (.seq (.region cloneB_r3) .ret)
abbrev cloneB_4 : Cc := (.seq cloneB_2 cloneB_3)
abbrev cloneB : Cc := (.seq (.region cloneB_r0) cloneB_4)
theorem cloneB_b : bodyC Try.f41 = cloneB := by kernel_rfl
theorem cloneB_k : cbl Try.prog 41 = true := by kernel_rfl
theorem cloneB_res : Try.f41.results.toList = [(.tmp 2)] := by kernel_rfl
theorem cloneB_o {ds : List D} {x : D} (hl : ds.length ≤ 8) (h : WC Try.prog [] cloneB { n := 8, tm := numb 0 (ds.map .d), hp := [] } (retQ Try.prog [(.tmp 2)] [] (isD x))) : Pu Try.prog 41 ds x := Pu.ofWC (fn := Try.f41) rfl cloneB_b (by simp) cloneB_k Try.ntmps41 cloneB_res hl h
/-- cubby/cubbylaw24.ViewTells -/
abbrev tells_r0 : List Sop := [⟨some 6, (.box 25 (.tmp 0)), none⟩,
  ⟨some 8, (.box 29 (.tmp 2)), none⟩,
  ⟨some 12, (.assign (.const (.bool false))), none⟩]
abbrev tells_r1 : List Sop := [⟨some 14, (.call { callee := (.value (.func 5)), args := #[], argTypes := #[] }), none⟩,
  ⟨some 15, (.unOp .not 4 (.tmp 14)), none⟩,
  ⟨some 16, (.move (.tmp 15)), none⟩,
  ⟨some 17, (.load 29 (.tmp 8)), some (16, false)⟩,
  ⟨some 18, (.load 25 (.tmp 6)), some (16, false)⟩,
  ⟨some 19, (.call { callee := (.value (.func 6)), args := #[(.tmp 17), (.tmp 18)], argTypes := #[29, 25] }), some (16, false)⟩,
  ⟨some 20, (.unOp .not 4 (.tmp 19)), some (16, false)⟩,
  ⟨some 21, (.pick (.tmp 16) (.const (.bool true)) (.tmp 20)), none⟩,
  ⟨some 22, (.move (.tmp 21)), none⟩,
  ⟨some 23, (.move (.tmp 4)), some (22, false)⟩,
  ⟨some 24, (.call { callee := (.builtin .len), args := #[(.tmp 23)], argTypes := #[30] }), some (22, false)⟩,
  ⟨some 25, (.binOp .gtr 3 (.tmp 24) (.const (.int .i64 500)) 3), some (22, false)⟩,
  ⟨some 26, (.pick (.tmp 22) (.const (.bool true)) (.tmp 25)), none⟩]
abbrev tells_r2 : List Sop := [⟨some 27, (.call { callee := (.value (.func 5)), args := #[], argTypes := #[] }), none⟩,
  ⟨some 12, (.assign (.tmp 27)), none⟩]
abbrev tells_0 : Cc := (.seq (.region tells_r2) .ret)
abbrev tells_1 : Cc := (.cond (.tmp 26) tells_0 .skip)
abbrev tells_2 : Cc := (.seq (.region tells_r1) tells_1)
abbrev tells_r3 : List Sop := [⟨some 28, (.load 25 (.tmp 6)), none⟩,
  ⟨some 29, (.call { callee := (.value (.func 7)), args := #[(.tmp 28)], argTypes := #[25] }), none⟩,
  ⟨some 13, (.alloc 25), none⟩,
  ⟨none, (.store 25 (.tmp 13) (.tmp 29)), none⟩]
abbrev tells_r4 : List (Sop × Kd) := [(⟨some 30, (.load 25 (.tmp 13)), none⟩, .pu),
  (⟨some 31, (.move (.tmp 1)), none⟩, .pu),
  (⟨some 33, (.load 25 (.tmp 6)), none⟩, .la [6]),
  (⟨some 34, (.move (.tmp 1)), none⟩, .la [1]),
  (⟨some 32, (.call { callee := (.value (.func 9)), args := #[(.tmp 30), (.tmp 31)], argTypes := #[25, 4] }), none⟩, .ch [34, 33] true),
  (⟨some 35, (.call { callee := (.value (.func 10)), args := #[(.tmp 33), (.tmp 34)], argTypes := #[25, 4] }), none⟩, .ch [] false),
  (⟨some 36, (.call { callee := (.value (.func 8)), args := #[(.tmp 32), (.tmp 35)], argTypes := #[29, 29] }), none⟩, .ch [] false),
  (⟨some 37, (.unOp .not 4 (.tmp 36)), none⟩, .pu),
  (⟨some 38, (.move (.tmp 37)), none⟩, .pu),
  (⟨some 39, (.load 29 (.tmp 8)), some (38, false)⟩, .pu),
  (⟨some 41, (.load 29 (.tmp 8)), some (38, false)⟩, .la [8, 38]),
  (⟨some 40, (.call { callee := (.value (.func 11)), args := #[(.tmp 39)], argTypes := #[29] }), some (38, false)⟩, .ch [41] true),
  (⟨some 42, (.call { callee := (.value (.func 12)), args := #[(.tmp 41)], argTypes := #[29] }), some (38, false)⟩, .ch [] false),
  (⟨some 43, (.binOp .neq 4 (.tmp 40) (.tmp 42) 4), some (38, false)⟩, .pu),
  (⟨some 44, (.pick (.tmp 38) (.const (.bool true)) (.tmp 43)), none⟩, .pu),
  (⟨some 45, (.move (.tmp 44)), none⟩, .pu),
  (⟨some 46, (.load 25 (.tmp 13)), some (45, false)⟩, .pu),
  (⟨some 47, (.load 25 (.tmp 6)), some (45, false)⟩, .pu),
  (⟨some 48, (.call { callee := (.value (.func 13)), args := #[(.tmp 46), (.tmp 47)], argTypes := #[25, 25] }), some (45, false)⟩, .ch [] false),
  (⟨some 49, (.unOp .not 4 (.tmp 48)), some (45, false)⟩, .pu),
  (⟨some 50, (.pick (.tmp 45) (.const (.bool true)) (.tmp 49)), none⟩, .pu)]
abbrev tells_r5 : List Sop := [⟨some 12, (.assign (.const (.bool false))), none⟩]
abbrev tells_3 : Cc := (.seq (.region tells_r5) .ret)
abbrev tells_4 : Cc := (.cond (.tmp 50) tells_3 .skip)
abbrev tells_5 : Cc := (.seq (.draw tells_r4) tells_4)
abbrev tells_r6 : List Sop := [⟨some 51, (.load 29 (.tmp 8)), none⟩,
  ⟨some 52, (.call { callee := (.value (.func 12)), args := #[(.tmp 51)], argTypes := #[29] }), none⟩,
  ⟨some 53, (.unOp .not 4 (.tmp 52)), none⟩]
abbrev tells_r7 : List Sop := [⟨some 12, (.assign (.const (.bool true))), none⟩]
abbrev tells_6 : Cc := (.seq (.region tells_r7) .ret)
abbrev tells_7 : Cc := (.cond (.tmp 53) tells_6 .skip)
abbrev tells_8 : Cc := (.seq (.region tells_r6) tells_7)
abbrev tells_r8 : List (Sop × Kd) := [(⟨some 54, (.load 29 (.tmp 8)), none⟩, .pu),
  (⟨some 55, (.move (.tmp 3)), none⟩, .pu),
  (⟨some 57, (.load 29 (.tmp 8)), none⟩, .la [8]),
  (⟨some 58, (.move (.tmp 3)), none⟩, .la [3]),
  (⟨some 56, (.call { callee := (.value (.func 14)), args := #[(.tmp 54), (.tmp 55)], argTypes := #[29, 22] }), none⟩, .ch [58, 57] true),
  (⟨some 59, (.call { callee := (.value (.func 15)), args := #[(.tmp 57), (.tmp 58)], argTypes := #[29, 22] }), none⟩, .ch [] false),
  (⟨some 60, (.binOp .eql 3 (.tmp 56) (.tmp 59) 3), none⟩, .pu),
  (⟨some 61, (.move (.tmp 60)), none⟩, .pu),
  (⟨some 62, (.load 29 (.tmp 8)), some (61, true)⟩, .pu),
  (⟨some 63, (.move (.tmp 4)), some (61, true)⟩, .pu),
  (⟨some 64, (.move (.tmp 5)), some (61, true)⟩, .pu),
  (⟨some 66, (.load 29 (.tmp 8)), some (61, true)⟩, .la [8, 61]),
  (⟨some 67, (.move (.tmp 4)), some (61, true)⟩, .la [4, 61]),
  (⟨some 68, (.move (.tmp 5)), some (61, true)⟩, .la [5, 61]),
  (⟨some 65, (.call { callee := (.value (.func 17)), args := #[(.tmp 62), (.tmp 63), (.tmp 64)], argTypes := #[29, 30, 4] }), some (61, true)⟩, .ch [68, 67, 66] true),
  (⟨some 69, (.call { callee := (.value (.func 18)), args := #[(.tmp 66), (.tmp 67), (.tmp 68)], argTypes := #[29, 30, 4] }), some (61, true)⟩, .ch [] false),
  (⟨some 70, (.call { callee := (.value (.func 16)), args := #[(.tmp 65), (.tmp 69)], argTypes := #[26, 26] }), some (61, true)⟩, .ch [] false),
  (⟨some 71, (.pick (.tmp 61) (.tmp 70) (.const (.bool false))), none⟩, .pu),
  (⟨some 12, (.assign (.tmp 71)), none⟩, .pu)]
abbrev tells_9 : Cc := (.seq (.draw tells_r8) .ret)
abbrev tells_10 : Cc := (.seq tells_8 tells_9)
abbrev tells_11 : Cc := (.seq tells_5 tells_10)
abbrev tells_12 : Cc := (.seq (.region tells_r3) tells_11)
abbrev tells_13 : Cc := (.seq tells_2 tells_12)
abbrev tells : Cc := (.seq (.region tells_r0) tells_13)
theorem tells_b : bodyC Try.f3 = tells := by kernel_rfl
theorem tells_k : cbl Try.prog 3 = true := by kernel_rfl
theorem tells_res : Try.f3.results.toList = [(.tmp 12)] := by kernel_rfl
theorem tells_o {ds : List D} {x : D} (hl : ds.length ≤ 72) (h : WC Try.prog [] tells { n := 72, tm := numb 0 (ds.map .d), hp := [] } (retQ Try.prog [(.tmp 12)] [] (isD x))) : Pu Try.prog 3 ds x := Pu.ofWC (fn := Try.f3) rfl tells_b (by simp) tells_k Try.ntmps3 tells_res hl h
/-- cubby/cubbylaw24.small -/
abbrev small_r0 : List Sop := [⟨some 2, (.box 29 (.tmp 0)), none⟩,
  ⟨some 3, (.box 25 (.tmp 1)), none⟩,
  ⟨some 4, (.assign (.const (.bool false))), none⟩]
abbrev small_r1 : List Sop := [⟨some 5, (.fieldAddr 29 (.tmp 2) 3), none⟩,
  ⟨some 6, (.load 26 (.tmp 5)), none⟩,
  ⟨some 7, (.call { callee := (.builtin .len), args := #[(.tmp 6)], argTypes := #[26] }), none⟩,
  ⟨some 8, (.binOp .lss 3 (.tmp 7) (.const (.int .i64 400)) 3), none⟩,
  ⟨some 9, (.move (.tmp 8)), none⟩,
  ⟨some 10, (.fieldAddr 29 (.tmp 2) 4), some (9, true)⟩,
  ⟨some 11, (.load 27 (.tmp 10)), some (9, true)⟩,
  ⟨some 12, (.call { callee := (.builtin .len), args := #[(.tmp 11)], argTypes := #[27] }), some (9, true)⟩,
  ⟨some 13, (.binOp .lss 3 (.tmp 12) (.const (.int .i64 400)) 3), some (9, true)⟩,
  ⟨some 14, (.pick (.tmp 9) (.tmp 13) (.const (.bool false))), none⟩,
  ⟨some 15, (.move (.tmp 14)), none⟩,
  ⟨some 16, (.fieldAddr 25 (.tmp 3) 5), some (15, true)⟩,
  ⟨some 17, (.load 23 (.tmp 16)), some (15, true)⟩,
  ⟨some 18, (.call { callee := (.builtin .len), args := #[(.tmp 17)], argTypes := #[23] }), some (15, true)⟩,
  ⟨some 19, (.binOp .lss 3 (.tmp 18) (.const (.int .i64 500)) 3), some (15, true)⟩,
  ⟨some 20, (.pick (.tmp 15) (.tmp 19) (.const (.bool false))), none⟩,
  ⟨some 4, (.assign (.tmp 20)), none⟩]
abbrev small_0 : Cc := (.seq (.region small_r1) .ret)
abbrev small : Cc := (.seq (.region small_r0) small_0)
theorem small_b : bodyC Try.f6 = small := by kernel_rfl
theorem small_k : cbl Try.prog 6 = true := by kernel_rfl
theorem small_res : Try.f6.results.toList = [(.tmp 4)] := by kernel_rfl
theorem small_o {ds : List D} {x : D} (hl : ds.length ≤ 21) (h : WC Try.prog [] small { n := 21, tm := numb 0 (ds.map .d), hp := [] } (retQ Try.prog [(.tmp 4)] [] (isD x))) : Pu Try.prog 6 ds x := Pu.ofWC (fn := Try.f6) rfl small_b (by simp) small_k Try.ntmps6 small_res hl h
/-- cubby/cubbyhelp.CopyFolder -/
abbrev cpfolder_r0 : List Sop := [⟨some 1, (.box 25 (.tmp 0)), none⟩,
  ⟨some 2, (.alloc 25), none⟩]
abbrev cpfolder_r1 : List Sop := [⟨some 3, (.assign (.const (.slice none 0 0))), none⟩]
abbrev cpfolder_r2 : List Sop := [⟨some 4, (.assign (.const (.int .i64 0))), none⟩]
abbrev cpfolder_r3 : List Sop := [⟨some 5, (.move (.tmp 4)), none⟩,
  ⟨some 6, (.fieldAddr 25 (.tmp 1) 5), none⟩,
  ⟨some 7, (.load 23 (.tmp 6)), none⟩,
  ⟨some 8, (.call { callee := (.builtin .len), args := #[(.tmp 7)], argTypes := #[23] }), none⟩,
  ⟨some 9, (.binOp .lss 3 (.tmp 5) (.tmp 8) 3), none⟩]
abbrev cpfolder_0 : Cc := (.cond (.tmp 9) .skip (.exit 0))
abbrev cpfolder_1 : Cc := (.seq (.region cpfolder_r3) cpfolder_0)
abbrev cpfolder_r5 : List Sop := [⟨some 12, (.move (.tmp 3)), none⟩,
  ⟨some 13, (.fieldAddr 25 (.tmp 1) 5), none⟩,
  ⟨some 14, (.load 23 (.tmp 13)), none⟩,
  ⟨some 15, (.move (.tmp 4)), none⟩,
  ⟨some 16, (.indexAddr 23 (.tmp 14) (.tmp 15)), none⟩,
  ⟨some 17, (.load 49 (.tmp 16)), none⟩,
  ⟨some 18, (.call { callee := (.value (.func 20)), args := #[(.tmp 17)], argTypes := #[49] }), none⟩,
  ⟨some 19, (.buildSlice 23 1 #[(0, (.tmp 18))]), none⟩,
  ⟨some 20, (.call { callee := (.builtin .append), args := #[(.tmp 12), (.tmp 19)], argTypes := #[23, 23] }), none⟩,
  ⟨some 3, (.assign (.tmp 20)), none⟩]
abbrev cpfolder_2 : Cc := (.block 1 (.region cpfolder_r5))
abbrev cpfolder_r4 : List Sop := [⟨some 10, (.move (.tmp 4)), none⟩,
  ⟨some 11, (.binOp .add 3 (.tmp 10) (.const (.int .i64 1)) 3), none⟩,
  ⟨some 4, (.assign (.tmp 11)), none⟩]
abbrev cpfolder_3 : Cc := (.seq cpfolder_2 (.region cpfolder_r4))
abbrev cpfolder_4 : Cc := (.seq cpfolder_1 cpfolder_3)
abbrev cpfolder_5 : Cc := (.loop cpfolder_4)
abbrev cpfolder_6 : Cc := (.block 0 cpfolder_5)
abbrev cpfolder_7 : Cc := (.seq (.region cpfolder_r2) cpfolder_6)
abbrev cpfolder_r6 : List Sop := [⟨some 21, (.move (.tmp 3)), none⟩,
  ⟨some 22, (.fieldAddr 25 (.tmp 1) 5), none⟩,
  ⟨none, (.store 23 (.tmp 22) (.tmp 21)), none⟩]
abbrev cpfolder_r7 : List Sop := [⟨some 23, (.load 25 (.tmp 1)), none⟩,
  ⟨none, (.store 25 (.tmp 2) (.tmp 23)), none⟩]
abbrev cpfolder_8 : Cc := (.seq (.region cpfolder_r7) .ret)
abbrev cpfolder_9 : Cc := (.seq (.region cpfolder_r6) cpfolder_8)
abbrev cpfolder_10 : Cc := (.seq cpfolder_7 cpfolder_9)
abbrev cpfolder_11 : Cc := (.seq (.region cpfolder_r1) cpfolder_10)
abbrev cpfolder : Cc := (.seq (.region cpfolder_r0) cpfolder_11)
theorem cpfolder_b : bodyC Try.f7 = cpfolder := by kernel_rfl
theorem cpfolder_k : cbl Try.prog 7 = true := by kernel_rfl
theorem cpfolder_res : Try.f7.results.toList = [(.cell 2 25)] := by kernel_rfl
theorem cpfolder_o {ds : List D} {x : D} (hl : ds.length ≤ 24) (h : WC Try.prog [] cpfolder { n := 24, tm := numb 0 (ds.map .d), hp := [] } (retQ Try.prog [(.cell 2 25)] [] (isD x))) : Pu Try.prog 7 ds x := Pu.ofWC (fn := Try.f7) rfl cpfolder_b (by simp) cpfolder_k Try.ntmps7 cpfolder_res hl h
/-- cubby/cubbyhelp.Sight -/
abbrev ssight_r0 : List Sop := [⟨some 2, (.box 29 (.tmp 0)), none⟩,
  ⟨some 3, (.box 29 (.tmp 1)), none⟩,
  ⟨some 4, (.assign (.const (.bool false))), none⟩]
abbrev ssight_r1 : List Sop := [⟨some 5, (.fieldAddr 29 (.tmp 2) 0), none⟩,
  ⟨some 6, (.load 9 (.tmp 5)), none⟩,
  ⟨some 7, (.fieldAddr 29 (.tmp 3) 0), none⟩,
  ⟨some 8, (.load 9 (.tmp 7)), none⟩,
  ⟨some 9, (.binOp .eql 9 (.tmp 6) (.tmp 8) 9), none⟩,
  ⟨some 10, (.move (.tmp 9)), none⟩,
  ⟨some 11, (.fieldAddr 29 (.tmp 2) 1), some (10, true)⟩,
  ⟨some 12, (.load 22 (.tmp 11)), some (10, true)⟩,
  ⟨some 13, (.fieldAddr 29 (.tmp 3) 1), some (10, true)⟩,
  ⟨some 14, (.load 22 (.tmp 13)), some (10, true)⟩,
  ⟨some 15, (.binOp .eql 22 (.tmp 12) (.tmp 14) 22), some (10, true)⟩,
  ⟨some 16, (.pick (.tmp 10) (.tmp 15) (.const (.bool false))), none⟩,
  ⟨some 17, (.move (.tmp 16)), none⟩,
  ⟨some 18, (.fieldAddr 29 (.tmp 2) 2), some (17, true)⟩,
  ⟨some 19, (.load 4 (.tmp 18)), some (17, true)⟩,
  ⟨some 20, (.fieldAddr 29 (.tmp 3) 2), some (17, true)⟩,
  ⟨some 21, (.load 4 (.tmp 20)), some (17, true)⟩,
  ⟨some 22, (.binOp .eql 4 (.tmp 19) (.tmp 21) 4), some (17, true)⟩,
  ⟨some 23, (.pick (.tmp 17) (.tmp 22) (.const (.bool false))), none⟩,
  ⟨some 24, (.move (.tmp 23)), none⟩,
  ⟨some 25, (.fieldAddr 29 (.tmp 2) 3), some (24, true)⟩,
  ⟨some 26, (.load 26 (.tmp 25)), some (24, true)⟩,
  ⟨some 27, (.fieldAddr 29 (.tmp 3) 3), some (24, true)⟩,
  ⟨some 28, (.load 26 (.tmp 27)), some (24, true)⟩,
  ⟨some 29, (.call { callee := (.value (.func 16)), args := #[(.tmp 26), (.tmp 28)], argTypes := #[26, 26] }), some (24, true)⟩,
  ⟨some 30, (.pick (.tmp 24) (.tmp 29) (.const (.bool false))), none⟩,
  ⟨some 31, (.move (.tmp 30)), none⟩,
  ⟨some 32, (.fieldAddr 29 (.tmp 2) 4), some (31, true)⟩,
  ⟨some 33, (.load 27 (.tmp 32)), some (31, true)⟩,
  ⟨some 34, (.fieldAddr 29 (.tmp 3) 4), some (31, true)⟩,
  ⟨some 35, (.load 27 (.tmp 34)), some (31, true)⟩,
  ⟨some 36, (.call { callee := (.value (.func 21)), args := #[(.tmp 33), (.tmp 35), (.func 22)], argTypes := #[27, 27, 52] }), some (31, true)⟩,
  ⟨some 37, (.pick (.tmp 31) (.tmp 36) (.const (.bool false))), none⟩,
  ⟨some 4, (.assign (.tmp 37)), none⟩]
abbrev ssight_0 : Cc := (.seq (.region ssight_r1) .ret)
abbrev ssight : Cc := (.seq (.region ssight_r0) ssight_0)
theorem ssight_b : bodyC Try.f8 = ssight := by kernel_rfl
theorem ssight_k : cbl Try.prog 8 = true := by kernel_rfl
theorem ssight_res : Try.f8.results.toList = [(.tmp 4)] := by kernel_rfl
theorem ssight_o {ds : List D} {x : D} (hl : ds.length ≤ 38) (h : WC Try.prog [] ssight { n := 38, tm := numb 0 (ds.map .d), hp := [] } (retQ Try.prog [(.tmp 4)] [] (isD x))) : Pu Try.prog 8 ds x := Pu.ofWC (fn := Try.f8) rfl ssight_b (by simp) ssight_k Try.ntmps8 ssight_res hl h
/-- cubby/cubbyref24.Open -/
abbrev ropen_r0 : List Sop := [⟨some 2, (.box 25 (.tmp 0)), none⟩,
  ⟨some 4, (.alloc 29), none⟩]
abbrev ropen_r1 : List Sop := [⟨some 8, (.fieldAddr 25 (.tmp 2) 0), none⟩,
  ⟨some 9, (.load 9 (.tmp 8)), none⟩,
  ⟨some 10, (.fieldAddr 25 (.tmp 2) 1), none⟩,
  ⟨some 11, (.load 22 (.tmp 10)), none⟩,
  ⟨some 12, (.move (.tmp 1)), none⟩,
  ⟨some 13, (.build 29 #[(0, (.tmp 9)), (1, (.tmp 11)), (2, (.tmp 12))]), none⟩,
  ⟨some 5, (.alloc 29), none⟩,
  ⟨none, (.store 29 (.tmp 5) (.tmp 13)), none⟩]
abbrev ropen_r2 : List Sop := [⟨some 14, (.load 25 (.tmp 2)), none⟩,
  ⟨some 15, (.call { callee := (.value (.func 24)), args := #[(.tmp 14)], argTypes := #[25] }), none⟩,
  ⟨some 6, (.assign (.tmp 15)), none⟩]
abbrev ropen_r3 : List Sop := [⟨some 7, (.assign (.const (.int .i64 0))), none⟩]
abbrev ropen_r4 : List Sop := [⟨some 16, (.move (.tmp 7)), none⟩,
  ⟨some 17, (.move (.tmp 6)), none⟩,
  ⟨some 18, (.call { callee := (.builtin .len), args := #[(.tmp 17)], argTypes := #[23] }), none⟩,
  ⟨some 19, (.binOp .lss 3 (.tmp 16) (.tmp 18) 3), none⟩]
abbrev ropen_0 : Cc := (.cond (.tmp 19) .skip (.exit 0))
abbrev ropen_1 : Cc := (.seq (.region ropen_r4) ropen_0)
abbrev ropen_r6 : List (Sop × Kd) := [(⟨some 22, (.fieldAddr 29 (.tmp 5) 3), none⟩, .la [5]),
  (⟨some 23, (.load 26 (.tmp 22)), none⟩, .la [22]),
  (⟨some 24, (.move (.tmp 6)), none⟩, .pu),
  (⟨some 25, (.move (.tmp 7)), none⟩, .pu),
  (⟨some 26, (.indexAddr 23 (.tmp 24) (.tmp 25)), none⟩, .pu),
  (⟨some 27, (.fieldAddr 49 (.tmp 26) 0), none⟩, .pu),
  (⟨some 28, (.load 22 (.tmp 27)), none⟩, .pu),
  (⟨some 29, (.buildSlice 26 1 #[(0, (.tmp 28))]), none⟩, .ch [23, 22] true),
  (⟨some 30, (.call { callee := (.builtin .append), args := #[(.tmp 23), (.tmp 29)], argTypes := #[26, 26] }), none⟩, .ch [] false),
  (⟨some 31, (.fieldAddr 29 (.tmp 5) 3), none⟩, .pu),
  (⟨none, (.store 26 (.tmp 31) (.tmp 30)), none⟩, .ch [] false)]
abbrev ropen_r7 : List (Sop × Kd) := [(⟨some 32, (.fieldAddr 29 (.tmp 5) 4), none⟩, .la [5]),
  (⟨some 33, (.load 27 (.tmp 32)), none⟩, .la [32]),
  (⟨some 34, (.move (.tmp 6)), none⟩, .pu),
  (⟨some 35, (.move (.tmp 7)), none⟩, .pu),
  (⟨some 36, (.indexAddr 23 (.tmp 34) (.tmp 35)), none⟩, .pu),
  (⟨some 37, (.fieldAddr 49 (.tmp 36) 2), none⟩, .pu),
  (⟨some 38, (.load 46 (.tmp 37)), none⟩, .pu),
  (⟨some 39, (.call { callee := (.value (.func 25)), args := #[(.tmp 38)], argTypes := #[46] }), none⟩, .ch [33, 32] true),
  (⟨some 40, (.buildSlice 27 1 #[(0, (.tmp 39))]), none⟩, .ch [33, 32] true),
  (⟨some 41, (.call { callee := (.builtin .append), args := #[(.tmp 33), (.tmp 40)], argTypes := #[27, 27] }), none⟩, .ch [] false),
  (⟨some 42, (.fieldAddr 29 (.tmp 5) 4), none⟩, .pu),
  (⟨none, (.store 27 (.tmp 42) (.tmp 41)), none⟩, .ch [] false)]
abbrev ropen_2 : Cc := (.seq (.draw ropen_r6) (.draw ropen_r7))
abbrev ropen_3 : Cc := (.block 1 ropen_2)
abbrev ropen_r5 : List Sop := [⟨some 20, (.move (.tmp 7)), none⟩,
  ⟨some 21, (.binOp .add 3 (.tmp 20) (.const (.int .i64 1)) 3), none⟩,
  ⟨some 7, (.assign (.tmp 21)), none⟩]
abbrev ropen_4 : Cc := (.seq ropen_3 (.region ropen_r5))
abbrev ropen_5 : Cc := (.seq ropen_1 ropen_4)
abbrev ropen_6 : Cc := (.loop ropen_5)
abbrev ropen_7 : Cc := (.block 0 ropen_6)
abbrev ropen_8 : Cc := (.seq (.region ropen_r3) ropen_7)
abbrev ropen_r8 : List Sop := [⟨some 43, (.load 29 (.tmp 5)), none⟩,
  ⟨none, (.store 29 (.tmp 4) (.tmp 43)), none⟩]
abbrev ropen_9 : Cc := (.seq (.region ropen_r8) .ret)
abbrev ropen_10 : Cc := (.seq ropen_8 ropen_9)
abbrev ropen_11 : Cc := (.seq (.region ropen_r2) ropen_10)
abbrev ropen_12 : Cc := (.seq (.region ropen_r1) ropen_11)
abbrev ropen : Cc := (.seq (.region ropen_r0) ropen_12)
theorem ropen_b : bodyC Try.f10 = ropen := by kernel_rfl
theorem ropen_k : cbl Try.prog 10 = true := by kernel_rfl
theorem ropen_res : Try.f10.results.toList = [(.cell 4 29)] := by kernel_rfl
theorem ropen_o {ds : List D} {x : D} (hl : ds.length ≤ 44) (h : WC Try.prog [] ropen { n := 44, tm := numb 0 (ds.map .d), hp := [] } (retQ Try.prog [(.cell 4 29)] [] (isD x))) : Pu Try.prog 10 ds x := Pu.ofWC (fn := Try.f10) rfl ropen_b (by simp) ropen_k Try.ntmps10 ropen_res hl h
/-- cubby/cubbyhelp.Folder -/
abbrev sfolder_r0 : List Sop := [⟨some 2, (.box 25 (.tmp 0)), none⟩,
  ⟨some 3, (.box 25 (.tmp 1)), none⟩,
  ⟨some 4, (.assign (.const (.bool false))), none⟩]
abbrev sfolder_r1 : List Sop := [⟨some 5, (.fieldAddr 25 (.tmp 2) 0), none⟩,
  ⟨some 6, (.load 9 (.tmp 5)), none⟩,
  ⟨some 7, (.fieldAddr 25 (.tmp 3) 0), none⟩,
  ⟨some 8, (.load 9 (.tmp 7)), none⟩,
  ⟨some 9, (.binOp .eql 9 (.tmp 6) (.tmp 8) 9), none⟩,
  ⟨some 10, (.move (.tmp 9)), none⟩,
  ⟨some 11, (.fieldAddr 25 (.tmp 2) 1), some (10, true)⟩,
  ⟨some 12, (.load 22 (.tmp 11)), some (10, true)⟩,
  ⟨some 13, (.fieldAddr 25 (.tmp 3) 1), some (10, true)⟩,
  ⟨some 14, (.load 22 (.tmp 13)), some (10, true)⟩,
  ⟨some 15, (.binOp .eql 22 (.tmp 12) (.tmp 14) 22), some (10, true)⟩,
  ⟨some 16, (.pick (.tmp 10) (.tmp 15) (.const (.bool false))), none⟩,
  ⟨some 17, (.move (.tmp 16)), none⟩,
  ⟨some 18, (.fieldAddr 25 (.tmp 2) 2), some (17, true)⟩,
  ⟨some 19, (.load 22 (.tmp 18)), some (17, true)⟩,
  ⟨some 20, (.fieldAddr 25 (.tmp 3) 2), some (17, true)⟩,
  ⟨some 21, (.load 22 (.tmp 20)), some (17, true)⟩,
  ⟨some 22, (.binOp .eql 22 (.tmp 19) (.tmp 21) 22), some (17, true)⟩,
  ⟨some 23, (.pick (.tmp 17) (.tmp 22) (.const (.bool false))), none⟩,
  ⟨some 24, (.move (.tmp 23)), none⟩,
  ⟨some 25, (.fieldAddr 25 (.tmp 2) 3), some (24, true)⟩,
  ⟨some 26, (.load 22 (.tmp 25)), some (24, true)⟩,
  ⟨some 27, (.fieldAddr 25 (.tmp 3) 3), some (24, true)⟩,
  ⟨some 28, (.load 22 (.tmp 27)), some (24, true)⟩,
  ⟨some 29, (.binOp .eql 22 (.tmp 26) (.tmp 28) 22), some (24, true)⟩,
  ⟨some 30, (.pick (.tmp 24) (.tmp 29) (.const (.bool false))), none⟩,
  ⟨some 31, (.move (.tmp 30)), none⟩,
  ⟨some 32, (.fieldAddr 25 (.tmp 2) 4), some (31, true)⟩,
  ⟨some 33, (.load 4 (.tmp 32)), some (31, true)⟩,
  ⟨some 34, (.fieldAddr 25 (.tmp 3) 4), some (31, true)⟩,
  ⟨some 35, (.load 4 (.tmp 34)), some (31, true)⟩,
  ⟨some 36, (.binOp .eql 4 (.tmp 33) (.tmp 35) 4), some (31, true)⟩,
  ⟨some 37, (.pick (.tmp 31) (.tmp 36) (.const (.bool false))), none⟩,
  ⟨some 38, (.move (.tmp 37)), none⟩,
  ⟨some 39, (.fieldAddr 25 (.tmp 2) 5), some (38, true)⟩,
  ⟨some 40, (.load 23 (.tmp 39)), some (38, true)⟩,
  ⟨some 41, (.fieldAddr 25 (.tmp 3) 5), some (38, true)⟩,
  ⟨some 42, (.load 23 (.tmp 41)), some (38, true)⟩,
  ⟨some 43, (.call { callee := (.value (.func 27)), args := #[(.tmp 40), (.tmp 42), (.func 28)], argTypes := #[23, 23, 57] }), some (38, true)⟩,
  ⟨some 44, (.pick (.tmp 38) (.tmp 43) (.const (.bool false))), none⟩,
  ⟨some 4, (.assign (.tmp 44)), none⟩]
abbrev sfolder_0 : Cc := (.seq (.region sfolder_r1) .ret)
abbrev sfolder : Cc := (.seq (.region sfolder_r0) sfolder_0)
theorem sfolder_b : bodyC Try.f13 = sfolder := by kernel_rfl
theorem sfolder_k : cbl Try.prog 13 = true := by kernel_rfl
theorem sfolder_res : Try.f13.results.toList = [(.tmp 4)] := by kernel_rfl
theorem sfolder_o {ds : List D} {x : D} (hl : ds.length ≤ 45) (h : WC Try.prog [] sfolder { n := 45, tm := numb 0 (ds.map .d), hp := [] } (retQ Try.prog [(.tmp 4)] [] (isD x))) : Pu Try.prog 13 ds x := Pu.ofWC (fn := Try.f13) rfl sfolder_b (by simp) sfolder_k Try.ntmps13 sfolder_res hl h
/-- cubby/cubbyref24.Number -/
abbrev rnumber_r0 : List Sop := [⟨some 2, (.box 29 (.tmp 0)), none⟩,
  ⟨some 4, (.assign (.const (.int .i64 0))), none⟩]
abbrev rnumber_r1 : List Sop := [⟨some 5, (.assign (.const (.int .i64 0))), none⟩]
abbrev rnumber_r2 : List Sop := [⟨some 6, (.move (.tmp 5)), none⟩,
  ⟨some 7, (.fieldAddr 29 (.tmp 2) 3), none⟩,
  ⟨some 8, (.load 26 (.tmp 7)), none⟩,
  ⟨some 9, (.call { callee := (.builtin .len), args := #[(.tmp 8)], argTypes := #[26] }), none⟩,
  ⟨some 10, (.binOp .lss 3 (.tmp 6) (.tmp 9) 3), none⟩]
abbrev rnumber_0 : Cc := (.cond (.tmp 10) .skip (.exit 0))
abbrev rnumber_1 : Cc := (.seq (.region rnumber_r2) rnumber_0)
abbrev rnumber_r4 : List Sop := [⟨some 13, (.fieldAddr 29 (.tmp 2) 3), none⟩,
  ⟨some 14, (.load 26 (.tmp 13)), none⟩,
  ⟨some 15, (.move (.tmp 5)), none⟩,
  ⟨some 16, (.indexAddr 26 (.tmp 14) (.tmp 15)), none⟩,
  ⟨some 17, (.load 22 (.tmp 16)), none⟩,
  ⟨some 18, (.move (.tmp 1)), none⟩,
  ⟨some 19, (.binOp .eql 22 (.tmp 17) (.tmp 18) 22), none⟩]
abbrev rnumber_r5 : List Sop := [⟨some 20, (.move (.tmp 5)), none⟩,
  ⟨some 21, (.binOp .add 3 (.tmp 20) (.const (.int .i64 1)) 3), none⟩,
  ⟨some 4, (.assign (.tmp 21)), none⟩]
abbrev rnumber_2 : Cc := (.seq (.region rnumber_r5) .ret)
abbrev rnumber_3 : Cc := (.cond (.tmp 19) rnumber_2 .skip)
abbrev rnumber_4 : Cc := (.seq (.region rnumber_r4) rnumber_3)
abbrev rnumber_5 : Cc := (.block 1 rnumber_4)
abbrev rnumber_r3 : List Sop := [⟨some 11, (.move (.tmp 5)), none⟩,
  ⟨some 12, (.binOp .add 3 (.tmp 11) (.const (.int .i64 1)) 3), none⟩,
  ⟨some 5, (.assign (.tmp 12)), none⟩]
abbrev rnumber_6 : Cc := (.seq rnumber_5 (.region rnumber_r3))
abbrev rnumber_7 : Cc := (.seq rnumber_1 rnumber_6)
abbrev rnumber_8 : Cc := (.loop rnumber_7)
abbrev rnumber_9 : Cc := (.block 0 rnumber_8)
abbrev rnumber_10 : Cc := (.seq (.region rnumber_r1) rnumber_9)
abbrev rnumber_r6 : List Sop := [⟨some 4, (.assign (.const (.int .i64 0))), none⟩]
abbrev rnumber_11 : Cc := (.seq (.region rnumber_r6) .ret)
abbrev rnumber_12 : Cc := (.seq rnumber_10 rnumber_11)
abbrev rnumber : Cc := (.seq (.region rnumber_r0) rnumber_12)
theorem rnumber_b : bodyC Try.f15 = rnumber := by kernel_rfl
theorem rnumber_k : cbl Try.prog 15 = true := by kernel_rfl
theorem rnumber_res : Try.f15.results.toList = [(.tmp 4)] := by kernel_rfl
theorem rnumber_o {ds : List D} {x : D} (hl : ds.length ≤ 22) (h : WC Try.prog [] rnumber { n := 22, tm := numb 0 (ds.map .d), hp := [] } (retQ Try.prog [(.tmp 4)] [] (isD x))) : Pu Try.prog 15 ds x := Pu.ofWC (fn := Try.f15) rfl rnumber_b (by simp) rnumber_k Try.ntmps15 rnumber_res hl h
/-- cubby/cubbyref24.Uids -/
abbrev ruids_r0 : List Sop := [⟨some 3, (.box 29 (.tmp 0)), none⟩,
  ⟨some 6, (.assign (.const (.slice none 0 0))), none⟩]
abbrev ruids_r1 : List Sop := [⟨some 9, (.move (.tmp 2)), none⟩]
abbrev ruids_r2 : List Sop := [⟨some 10, (.move (.tmp 1)), none⟩,
  ⟨some 11, (.fieldAddr 29 (.tmp 3) 3), none⟩,
  ⟨some 12, (.load 26 (.tmp 11)), none⟩,
  ⟨some 13, (.call { callee := (.value (.func 34)), args := #[(.tmp 10), (.tmp 12)], argTypes := #[30, 26] }), none⟩,
  ⟨some 6, (.assign (.tmp 13)), none⟩]
abbrev ruids_0 : Cc := (.seq (.region ruids_r2) .ret)
abbrev ruids_1 : Cc := (.cond (.tmp 9) ruids_0 .skip)
abbrev ruids_2 : Cc := (.seq (.region ruids_r1) ruids_1)
abbrev ruids_r3 : List Sop := [⟨some 7, (.assign (.const (.slice none 0 0))), none⟩]
abbrev ruids_r4 : List Sop := [⟨some 8, (.assign (.const (.int .i64 0))), none⟩]
abbrev ruids_r5 : List Sop := [⟨some 14, (.move (.tmp 8)), none⟩,
  ⟨some 15, (.fieldAddr 29 (.tmp 3) 3), none⟩,
  ⟨some 16, (.load 26 (.tmp 15)), none⟩,
  ⟨some 17, (.call { callee := (.builtin .len), args := #[(.tmp 16)], argTypes := #[26] }), none⟩,
  ⟨some 18, (.binOp .lss 3 (.tmp 14) (.tmp 17) 3), none⟩]
abbrev ruids_3 : Cc := (.cond (.tmp 18) .skip (.exit 0))
abbrev ruids_4 : Cc := (.seq (.region ruids_r5) ruids_3)
abbrev ruids_r7 : List Sop := [⟨some 21, (.move (.tmp 1)), none⟩,
  ⟨some 22, (.move (.tmp 8)), none⟩,
  ⟨some 23, (.binOp .add 3 (.tmp 22) (.const (.int .i64 1)) 3), none⟩,
  ⟨some 24, (.convert 3 22 (.tmp 23)), none⟩,
  ⟨some 25, (.fieldAddr 29 (.tmp 3) 3), none⟩,
  ⟨some 26, (.load 26 (.tmp 25)), none⟩,
  ⟨some 27, (.call { callee := (.builtin .len), args := #[(.tmp 26)], argTypes := #[26] }), none⟩,
  ⟨some 28, (.convert 3 22 (.tmp 27)), none⟩,
  ⟨some 29, (.call { callee := (.value (.func 35)), args := #[(.tmp 21), (.tmp 24), (.tmp 28)], argTypes := #[30, 22, 22] }), none⟩]
abbrev ruids_r8 : List Sop := [⟨some 30, (.move (.tmp 7)), none⟩,
  ⟨some 31, (.fieldAddr 29 (.tmp 3) 3), none⟩,
  ⟨some 32, (.load 26 (.tmp 31)), none⟩,
  ⟨some 33, (.move (.tmp 8)), none⟩,
  ⟨some 34, (.indexAddr 26 (.tmp 32) (.tmp 33)), none⟩,
  ⟨some 35, (.load 22 (.tmp 34)), none⟩,
  ⟨some 36, (.buildSlice 26 1 #[(0, (.tmp 35))]), none⟩,
  ⟨some 37, (.call { callee := (.builtin .append), args := #[(.tmp 30), (.tmp 36)], argTypes := #[26, 26] }), none⟩,
  ⟨some 7, (.assign (.tmp 37)), none⟩]
abbrev ruids_5 : Cc := (.cond (.tmp 29) (.region ruids_r8) .skip)
abbrev ruids_6 : Cc := (.seq (.region ruids_r7) ruids_5)
abbrev ruids_7 : Cc := (.block 1 ruids_6)
abbrev ruids_r6 : List Sop := [⟨some 19, (.move (.tmp 8)), none⟩,
  ⟨some 20, (.binOp .add 3 (.tmp 19) (.const (.int .i64 1)) 3), none⟩,
  ⟨some 8, (.assign (.tmp 20)), none⟩]
abbrev ruids_8 : Cc := (.seq ruids_7 (.region ruids_r6))
abbrev ruids_9 : Cc := (.seq ruids_4 ruids_8)
abbrev ruids_10 : Cc := (.loop ruids_9)
abbrev ruids_11 : Cc := (.block 0 ruids_10)
abbrev ruids_12 : Cc := (.seq (.region ruids_r4) ruids_11)
abbrev ruids_r9 : List Sop := [⟨some 38, (.move (.tmp 7)), none⟩,
  ⟨some 6, (.assign (.tmp 38)), none⟩]
abbrev ruids_13 : Cc := (.seq (.region ruids_r9) .ret)
abbrev ruids_14 : Cc := (.seq ruids_12 ruids_13)
abbrev ruids_15 : Cc := (.seq (.region ruids_r3) ruids_14)
abbrev ruids_16 : Cc := (.seq ruids_2 ruids_15)
abbrev ruids : Cc := (.seq (.region ruids_r0) ruids_16)
theorem ruids_b : bodyC Try.f18 = ruids := by kernel_rfl
theorem ruids_k : cbl Try.prog 18 = true := by kernel_rfl
theorem ruids_res : Try.f18.results.toList = [(.tmp 6)] := by kernel_rfl
theorem ruids_o {ds : List D} {x : D} (hl : ds.length ≤ 39) (h : WC Try.prog [] ruids { n := 39, tm := numb 0 (ds.map .d), hp := [] } (retQ Try.prog [(.tmp 6)] [] (isD x))) : Pu Try.prog 18 ds x := Pu.ofWC (fn := Try.f18) rfl ruids_b (by simp) ruids_k Try.ntmps18 ruids_res hl h
/-- cubby/cubbyhelp.CopyHeld -/
abbrev cpheld_r0 : List Sop := [⟨some 1, (.box 49 (.tmp 0)), none⟩,
  ⟨some 2, (.alloc 49), none⟩]
abbrev cpheld_r1 : List Sop := [⟨some 3, (.fieldAddr 49 (.tmp 1) 2), none⟩,
  ⟨some 4, (.load 46 (.tmp 3)), none⟩,
  ⟨some 5, (.call { callee := (.builtin .append), args := #[(.const (.slice none 0 0)), (.tmp 4)], argTypes := #[46, 46] }), none⟩,
  ⟨some 6, (.fieldAddr 49 (.tmp 1) 2), none⟩,
  ⟨none, (.store 46 (.tmp 6) (.tmp 5)), none⟩]
abbrev cpheld_r2 : List Sop := [⟨some 7, (.fieldAddr 49 (.tmp 1) 6), none⟩,
  ⟨some 8, (.load 47 (.tmp 7)), none⟩,
  ⟨some 9, (.call { callee := (.builtin .append), args := #[(.const (.slice none 0 0)), (.tmp 8)], argTypes := #[47, 47] }), none⟩,
  ⟨some 10, (.fieldAddr 49 (.tmp 1) 6), none⟩,
  ⟨none, (.store 47 (.tmp 10) (.tmp 9)), none⟩]
abbrev cpheld_r3 : List Sop := [⟨some 11, (.load 49 (.tmp 1)), none⟩,
  ⟨none, (.store 49 (.tmp 2) (.tmp 11)), none⟩]
abbrev cpheld_0 : Cc := (.seq (.region cpheld_r3) .ret)
abbrev cpheld_1 : Cc := (.seq (.region cpheld_r2) cpheld_0)
abbrev cpheld_2 : Cc := (.seq (.region cpheld_r1) cpheld_1)
abbrev cpheld : Cc := (.seq (.region cpheld_r0) cpheld_2)
theorem cpheld_b : bodyC Try.f20 = cpheld := by kernel_rfl
theorem cpheld_k : cbl Try.prog 20 = true := by kernel_rfl
theorem cpheld_res : Try.f20.results.toList = [(.cell 2 49)] := by kernel_rfl
theorem cpheld_o {ds : List D} {x : D} (hl : ds.length ≤ 12) (h : WC Try.prog [] cpheld { n := 12, tm := numb 0 (ds.map .d), hp := [] } (retQ Try.prog [(.cell 2 49)] [] (isD x))) : Pu Try.prog 20 ds x := Pu.ofWC (fn := Try.f20) rfl cpheld_b (by simp) cpheld_k Try.ntmps20 cpheld_res hl h
/-- cubby/cubbyhelp.Same[[]string] -/
abbrev sameL_r0 : List Sop := [⟨some 6, (.assign (.const (.bool false))), none⟩]
abbrev sameL_r1 : List Sop := [⟨some 8, (.move (.tmp 0)), none⟩,
  ⟨some 9, (.call { callee := (.builtin .len), args := #[(.tmp 8)], argTypes := #[27] }), none⟩,
  ⟨some 10, (.move (.tmp 1)), none⟩,
  ⟨some 11, (.call { callee := (.builtin .len), args := #[(.tmp 10)], argTypes := #[27] }), none⟩,
  ⟨some 12, (.binOp .neq 3 (.tmp 9) (.tmp 11) 3), none⟩]
abbrev sameL_r2 : List Sop := [⟨some 6, (.assign (.const (.bool false))), none⟩]
abbrev sameL_0 : Cc := (.seq (.region sameL_r2) .ret)
abbrev sameL_1 : Cc := (.cond (.tmp 12) sameL_0 .skip)
abbrev sameL_2 : Cc := (.seq (.region sameL_r1) sameL_1)
abbrev sameL_r3 : List Sop := [⟨some 7, (.assign (.const (.int .i64 0))), none⟩]
abbrev sameL_r4 : List Sop := [⟨some 13, (.move (.tmp 7)), none⟩,
  ⟨some 14, (.move (.tmp 0)), none⟩,
  ⟨some 15, (.call { callee := (.builtin .len), args := #[(.tmp 14)], argTypes := #[27] }), none⟩,
  ⟨some 16, (.binOp .lss 3 (.tmp 13) (.tmp 15) 3), none⟩]
abbrev sameL_3 : Cc := (.cond (.tmp 16) .skip (.exit 0))
abbrev sameL_4 : Cc := (.seq (.region sameL_r4) sameL_3)
abbrev sameL_r6 : List (Sop × Kd) := [(⟨some 19, (.move (.tmp 2)), none⟩, .pu),
  (⟨some 20, (.move (.tmp 0)), none⟩, .pu),
  (⟨some 21, (.move (.tmp 7)), none⟩, .pu),
  (⟨some 22, (.indexAddr 27 (.tmp 20) (.tmp 21)), none⟩, .pu),
  (⟨some 23, (.load 46 (.tmp 22)), none⟩, .pu),
  (⟨some 24, (.move (.tmp 1)), none⟩, .pu),
  (⟨some 25, (.move (.tmp 7)), none⟩, .pu),
  (⟨some 26, (.indexAddr 27 (.tmp 24) (.tmp 25)), none⟩, .pu),
  (⟨some 27, (.load 46 (.tmp 26)), none⟩, .pu),
  (⟨some 28, (.call { callee := (.value (.tmp 19)), args := #[(.tmp 23), (.tmp 27)], argTypes := #[46, 46] }), none⟩, .ch [] false),
  (⟨some 29, (.unOp .not 4 (.tmp 28)), none⟩, .pu)]
abbrev sameL_r7 : List Sop := [⟨some 6, (.assign (.const (.bool false))), none⟩]
abbrev sameL_5 : Cc := (.seq (.region sameL_r7) .ret)
abbrev sameL_6 : Cc := (.cond (.tmp 29) sameL_5 .skip)
abbrev sameL_7 : Cc := (.seq (.draw sameL_r6) sameL_6)
abbrev sameL_8 : Cc := (.block 1 sameL_7)
abbrev sameL_r5 : List Sop := [⟨some 17, (.move (.tmp 7)), none⟩,
  ⟨some 18, (.binOp .add 3 (.tmp 17) (.const (.int .i64 1)) 3), none⟩,
  ⟨some 7, (.assign (.tmp 18)), none⟩]
abbrev sameL_9 : Cc := (.seq sameL_8 (.region sameL_r5))
abbrev sameL_10 : Cc := (.seq sameL_4 sameL_9)
abbrev sameL_11 : Cc := (.loop sameL_10)
abbrev sameL_12 : Cc := (.block 0 sameL_11)
abbrev sameL_13 : Cc := (.seq (.region sameL_r3) sameL_12)
abbrev sameL_r8 : List Sop := [⟨some 6, (.assign (.const (.bool true))), none⟩]
abbrev sameL_14 : Cc := (.seq (.region sameL_r8) .ret)
abbrev sameL_15 : Cc := (.seq sameL_13 sameL_14)
abbrev sameL_16 : Cc := (.seq sameL_2 sameL_15)
abbrev sameL : Cc := (.seq (.region sameL_r0) sameL_16)
theorem sameL_b : bodyC Try.f21 = sameL := by kernel_rfl
theorem sameL_k : cbl Try.prog 21 = true := by kernel_rfl
theorem sameL_res : Try.f21.results.toList = [(.tmp 6)] := by kernel_rfl
theorem sameL_o {ds : List D} {x : D} (hl : ds.length ≤ 30) (h : WC Try.prog [] sameL { n := 30, tm := numb 0 (ds.map .d), hp := [] } (retQ Try.prog [(.tmp 6)] [] (isD x))) : Pu Try.prog 21 ds x := Pu.ofWC (fn := Try.f21) rfl sameL_b (by simp) sameL_k Try.ntmps21 sameL_res hl h
/-- cubby/cubbyhelp.Plain[string] -/
abbrev plainS_r0 : List Sop := [⟨some 4, (.assign (.const (.bool false))), none⟩]
abbrev plainS_r1 : List Sop := [⟨some 5, (.move (.tmp 0)), none⟩,
  ⟨some 6, (.move (.tmp 1)), none⟩,
  ⟨some 7, (.call { callee := (.value (.func 36)), args := #[(.tmp 5), (.tmp 6), (.func 37)], argTypes := #[46, 46, 64] }), none⟩,
  ⟨some 4, (.assign (.tmp 7)), none⟩]
abbrev plainS_0 : Cc := (.seq (.region plainS_r1) .ret)
abbrev plainS : Cc := (.seq (.region plainS_r0) plainS_0)
theorem plainS_b : bodyC Try.f22 = plainS := by kernel_rfl
theorem plainS_k : cbl Try.prog 22 = true := by kernel_rfl
theorem plainS_res : Try.f22.results.toList = [(.tmp 4)] := by kernel_rfl
theorem plainS_o {ds : List D} {x : D} (hl : ds.length ≤ 8) (h : WC Try.prog [] plainS { n := 8, tm := numb 0 (ds.map .d), hp := [] } (retQ Try.prog [(.tmp 4)] [] (isD x))) : Pu Try.prog 22 ds x := Pu.ofWC (fn := Try.f22) rfl plainS_b (by simp) plainS_k Try.ntmps22 plainS_res hl h
/-- cubby/cubbyref21.See -/
abbrev rsee_r0 : List Sop := [⟨some 1, (.box 25 (.tmp 0)), none⟩,
  ⟨some 2, (.assign (.const (.slice none 0 0))), none⟩]
abbrev rsee_r1 : List Sop := [⟨some 3, (.assign (.const (.slice none 0 0))), none⟩]
abbrev rsee_r2 : List Sop := [⟨some 4, (.assign (.const (.int .i64 0))), none⟩]
abbrev rsee_r3 : List Sop := [⟨some 5, (.move (.tmp 4)), none⟩,
  ⟨some 6, (.fieldAddr 25 (.tmp 1) 5), none⟩,
  ⟨some 7, (.load 23 (.tmp 6)), none⟩,
  ⟨some 8, (.call { callee := (.builtin .len), args := #[(.tmp 7)], argTypes := #[23] }), none⟩,
  ⟨some 9, (.binOp .lss 3 (.tmp 5) (.tmp 8) 3), none⟩]
abbrev rsee_0 : Cc := (.cond (.tmp 9) .skip (.exit 0))
abbrev rsee_1 : Cc := (.seq (.region rsee_r3) rsee_0)
abbrev rsee_r5 : List Sop := [⟨some 12, (.fieldAddr 25 (.tmp 1) 5), none⟩,
  ⟨some 13, (.load 23 (.tmp 12)), none⟩,
  ⟨some 14, (.move (.tmp 4)), none⟩,
  ⟨some 15, (.indexAddr 23 (.tmp 13) (.tmp 14)), none⟩,
  ⟨some 16, (.fieldAddr 49 (.tmp 15) 7), none⟩,
  ⟨some 17, (.load 4 (.tmp 16)), none⟩,
  ⟨some 18, (.unOp .not 4 (.tmp 17)), none⟩]
abbrev rsee_r6 : List Sop := [⟨some 19, (.move (.tmp 3)), none⟩,
  ⟨some 20, (.fieldAddr 25 (.tmp 1) 5), none⟩,
  ⟨some 21, (.load 23 (.tmp 20)), none⟩,
  ⟨some 22, (.move (.tmp 4)), none⟩,
  ⟨some 23, (.indexAddr 23 (.tmp 21) (.tmp 22)), none⟩,
  ⟨some 24, (.load 49 (.tmp 23)), none⟩,
  ⟨some 25, (.call { callee := (.value (.func 20)), args := #[(.tmp 24)], argTypes := #[49] }), none⟩,
  ⟨some 26, (.buildSlice 23 1 #[(0, (.tmp 25))]), none⟩,
  ⟨some 27, (.call { callee := (.builtin .append), args := #[(.tmp 19), (.tmp 26)], argTypes := #[23, 23] }), none⟩,
  ⟨some 3, (.assign (.tmp 27)), none⟩]
abbrev rsee_2 : Cc := (.cond (.tmp 18) (.region rsee_r6) .skip)
abbrev rsee_3 : Cc := (.seq (.region rsee_r5) rsee_2)
abbrev rsee_4 : Cc := (.block 1 rsee_3)
abbrev rsee_r4 : List Sop := [⟨some 10, (.move (.tmp 4)), none⟩,
  ⟨some 11, (.binOp .add 3 (.tmp 10) (.const (.int .i64 1)) 3), none⟩,
  ⟨some 4, (.assign (.tmp 11)), none⟩]
abbrev rsee_5 : Cc := (.seq rsee_4 (.region rsee_r4))
abbrev rsee_6 : Cc := (.seq rsee_1 rsee_5)
abbrev rsee_7 : Cc := (.loop rsee_6)
abbrev rsee_8 : Cc := (.block 0 rsee_7)
abbrev rsee_9 : Cc := (.seq (.region rsee_r2) rsee_8)
abbrev rsee_r7 : List Sop := [⟨some 28, (.move (.tmp 3)), none⟩,
  ⟨some 2, (.assign (.tmp 28)), none⟩]
abbrev rsee_10 : Cc := (.seq (.region rsee_r7) .ret)
abbrev rsee_11 : Cc := (.seq rsee_9 rsee_10)
abbrev rsee_12 : Cc := (.seq (.region rsee_r1) rsee_11)
abbrev rsee : Cc := (.seq (.region rsee_r0) rsee_12)
theorem rsee_b : bodyC Try.f24 = rsee := by kernel_rfl
theorem rsee_k : cbl Try.prog 24 = true := by kernel_rfl
theorem rsee_res : Try.f24.results.toList = [(.tmp 2)] := by kernel_rfl
theorem rsee_o {ds : List D} {x : D} (hl : ds.length ≤ 29) (h : WC Try.prog [] rsee { n := 29, tm := numb 0 (ds.map .d), hp := [] } (retQ Try.prog [(.tmp 2)] [] (isD x))) : Pu Try.prog 24 ds x := Pu.ofWC (fn := Try.f24) rfl rsee_b (by simp) rsee_k Try.ntmps24 rsee_res hl h
/-- cubby/cubbyref24.copied -/
abbrev copied_r0 : List Sop := [⟨some 2, (.assign (.const (.slice none 0 0))), none⟩]
abbrev copied_r1 : List Sop := [⟨some 3, (.move (.tmp 0)), none⟩,
  ⟨some 4, (.call { callee := (.builtin .append), args := #[(.const (.slice none 0 0)), (.tmp 3)], argTypes := #[46, 46] }), none⟩,
  ⟨some 2, (.assign (.tmp 4)), none⟩]
abbrev copied_0 : Cc := (.seq (.region copied_r1) .ret)
abbrev copied : Cc := (.seq (.region copied_r0) copied_0)
theorem copied_b : bodyC Try.f25 = copied := by kernel_rfl
theorem copied_k : cbl Try.prog 25 = true := by kernel_rfl
theorem copied_res : Try.f25.results.toList = [(.tmp 2)] := by kernel_rfl
theorem copied_o {ds : List D} {x : D} (hl : ds.length ≤ 5) (h : WC Try.prog [] copied { n := 5, tm := numb 0 (ds.map .d), hp := [] } (retQ Try.prog [(.tmp 2)] [] (isD x))) : Pu Try.prog 25 ds x := Pu.ofWC (fn := Try.f25) rfl copied_b (by simp) copied_k Try.ntmps25 copied_res hl h
/-- cubby/cubbyhelp.Same[cubby/api.Held] -/
abbrev sameH_r0 : List Sop := [⟨some 6, (.assign (.const (.bool false))), none⟩]
abbrev sameH_r1 : List Sop := [⟨some 8, (.move (.tmp 0)), none⟩,
  ⟨some 9, (.call { callee := (.builtin .len), args := #[(.tmp 8)], argTypes := #[23] }), none⟩,
  ⟨some 10, (.move (.tmp 1)), none⟩,
  ⟨some 11, (.call { callee := (.builtin .len), args := #[(.tmp 10)], argTypes := #[23] }), none⟩,
  ⟨some 12, (.binOp .neq 3 (.tmp 9) (.tmp 11) 3), none⟩]
abbrev sameH_r2 : List Sop := [⟨some 6, (.assign (.const (.bool false))), none⟩]
abbrev sameH_0 : Cc := (.seq (.region sameH_r2) .ret)
abbrev sameH_1 : Cc := (.cond (.tmp 12) sameH_0 .skip)
abbrev sameH_2 : Cc := (.seq (.region sameH_r1) sameH_1)
abbrev sameH_r3 : List Sop := [⟨some 7, (.assign (.const (.int .i64 0))), none⟩]
abbrev sameH_r4 : List Sop := [⟨some 13, (.move (.tmp 7)), none⟩,
  ⟨some 14, (.move (.tmp 0)), none⟩,
  ⟨some 15, (.call { callee := (.builtin .len), args := #[(.tmp 14)], argTypes := #[23] }), none⟩,
  ⟨some 16, (.binOp .lss 3 (.tmp 13) (.tmp 15) 3), none⟩]
abbrev sameH_3 : Cc := (.cond (.tmp 16) .skip (.exit 0))
abbrev sameH_4 : Cc := (.seq (.region sameH_r4) sameH_3)
abbrev sameH_r6 : List (Sop × Kd) := [(⟨some 19, (.move (.tmp 2)), none⟩, .pu),
  (⟨some 20, (.move (.tmp 0)), none⟩, .pu),
  (⟨some 21, (.move (.tmp 7)), none⟩, .pu),
  (⟨some 22, (.indexAddr 23 (.tmp 20) (.tmp 21)), none⟩, .pu),
  (⟨some 23, (.load 49 (.tmp 22)), none⟩, .pu),
  (⟨some 24, (.move (.tmp 1)), none⟩, .pu),
  (⟨some 25, (.move (.tmp 7)), none⟩, .pu),
  (⟨some 26, (.indexAddr 23 (.tmp 24) (.tmp 25)), none⟩, .pu),
  (⟨some 27, (.load 49 (.tmp 26)), none⟩, .pu),
  (⟨some 28, (.call { callee := (.value (.tmp 19)), args := #[(.tmp 23), (.tmp 27)], argTypes := #[49, 49] }), none⟩, .ch [] false),
  (⟨some 29, (.unOp .not 4 (.tmp 28)), none⟩, .pu)]
abbrev sameH_r7 : List Sop := [⟨some 6, (.assign (.const (.bool false))), none⟩]
abbrev sameH_5 : Cc := (.seq (.region sameH_r7) .ret)
abbrev sameH_6 : Cc := (.cond (.tmp 29) sameH_5 .skip)
abbrev sameH_7 : Cc := (.seq (.draw sameH_r6) sameH_6)
abbrev sameH_8 : Cc := (.block 1 sameH_7)
abbrev sameH_r5 : List Sop := [⟨some 17, (.move (.tmp 7)), none⟩,
  ⟨some 18, (.binOp .add 3 (.tmp 17) (.const (.int .i64 1)) 3), none⟩,
  ⟨some 7, (.assign (.tmp 18)), none⟩]
abbrev sameH_9 : Cc := (.seq sameH_8 (.region sameH_r5))
abbrev sameH_10 : Cc := (.seq sameH_4 sameH_9)
abbrev sameH_11 : Cc := (.loop sameH_10)
abbrev sameH_12 : Cc := (.block 0 sameH_11)
abbrev sameH_13 : Cc := (.seq (.region sameH_r3) sameH_12)
abbrev sameH_r8 : List Sop := [⟨some 6, (.assign (.const (.bool true))), none⟩]
abbrev sameH_14 : Cc := (.seq (.region sameH_r8) .ret)
abbrev sameH_15 : Cc := (.seq sameH_13 sameH_14)
abbrev sameH_16 : Cc := (.seq sameH_2 sameH_15)
abbrev sameH : Cc := (.seq (.region sameH_r0) sameH_16)
theorem sameH_b : bodyC Try.f27 = sameH := by kernel_rfl
theorem sameH_k : cbl Try.prog 27 = true := by kernel_rfl
theorem sameH_res : Try.f27.results.toList = [(.tmp 6)] := by kernel_rfl
theorem sameH_o {ds : List D} {x : D} (hl : ds.length ≤ 30) (h : WC Try.prog [] sameH { n := 30, tm := numb 0 (ds.map .d), hp := [] } (retQ Try.prog [(.tmp 6)] [] (isD x))) : Pu Try.prog 27 ds x := Pu.ofWC (fn := Try.f27) rfl sameH_b (by simp) sameH_k Try.ntmps27 sameH_res hl h
/-- cubby/cubbyhelp.Held -/
abbrev sheld_r0 : List Sop := [⟨some 2, (.box 49 (.tmp 0)), none⟩,
  ⟨some 3, (.box 49 (.tmp 1)), none⟩,
  ⟨some 4, (.assign (.const (.bool false))), none⟩]
abbrev sheld_r1 : List Sop := [⟨some 5, (.fieldAddr 49 (.tmp 2) 0), none⟩,
  ⟨some 6, (.load 22 (.tmp 5)), none⟩,
  ⟨some 7, (.fieldAddr 49 (.tmp 3) 0), none⟩,
  ⟨some 8, (.load 22 (.tmp 7)), none⟩,
  ⟨some 9, (.binOp .eql 22 (.tmp 6) (.tmp 8) 22), none⟩,
  ⟨some 10, (.move (.tmp 9)), none⟩,
  ⟨some 11, (.fieldAddr 49 (.tmp 2) 1), some (10, true)⟩,
  ⟨some 12, (.load 22 (.tmp 11)), some (10, true)⟩,
  ⟨some 13, (.fieldAddr 49 (.tmp 3) 1), some (10, true)⟩,
  ⟨some 14, (.load 22 (.tmp 13)), some (10, true)⟩,
  ⟨some 15, (.binOp .eql 22 (.tmp 12) (.tmp 14) 22), some (10, true)⟩,
  ⟨some 16, (.pick (.tmp 10) (.tmp 15) (.const (.bool false))), none⟩,
  ⟨some 17, (.move (.tmp 16)), none⟩,
  ⟨some 18, (.fieldAddr 49 (.tmp 2) 2), some (17, true)⟩,
  ⟨some 19, (.load 46 (.tmp 18)), some (17, true)⟩,
  ⟨some 20, (.fieldAddr 49 (.tmp 3) 2), some (17, true)⟩,
  ⟨some 21, (.load 46 (.tmp 20)), some (17, true)⟩,
  ⟨some 22, (.call { callee := (.value (.func 22)), args := #[(.tmp 19), (.tmp 21)], argTypes := #[46, 46] }), some (17, true)⟩,
  ⟨some 23, (.pick (.tmp 17) (.tmp 22) (.const (.bool false))), none⟩,
  ⟨some 24, (.move (.tmp 23)), none⟩,
  ⟨some 25, (.fieldAddr 49 (.tmp 2) 3), some (24, true)⟩,
  ⟨some 26, (.load 9 (.tmp 25)), some (24, true)⟩,
  ⟨some 27, (.fieldAddr 49 (.tmp 3) 3), some (24, true)⟩,
  ⟨some 28, (.load 9 (.tmp 27)), some (24, true)⟩,
  ⟨some 29, (.binOp .eql 9 (.tmp 26) (.tmp 28) 9), some (24, true)⟩,
  ⟨some 30, (.pick (.tmp 24) (.tmp 29) (.const (.bool false))), none⟩,
  ⟨some 31, (.move (.tmp 30)), none⟩,
  ⟨some 32, (.fieldAddr 49 (.tmp 2) 4), some (31, true)⟩,
  ⟨some 33, (.load 3 (.tmp 32)), some (31, true)⟩,
  ⟨some 34, (.fieldAddr 49 (.tmp 3) 4), some (31, true)⟩,
  ⟨some 35, (.load 3 (.tmp 34)), some (31, true)⟩,
  ⟨some 36, (.binOp .eql 3 (.tmp 33) (.tmp 35) 3), some (31, true)⟩,
  ⟨some 37, (.pick (.tmp 31) (.tmp 36) (.const (.bool false))), none⟩,
  ⟨some 38, (.move (.tmp 37)), none⟩,
  ⟨some 39, (.fieldAddr 49 (.tmp 2) 5), some (38, true)⟩,
  ⟨some 40, (.load 4 (.tmp 39)), some (38, true)⟩,
  ⟨some 41, (.fieldAddr 49 (.tmp 3) 5), some (38, true)⟩,
  ⟨some 42, (.load 4 (.tmp 41)), some (38, true)⟩,
  ⟨some 43, (.binOp .eql 4 (.tmp 40) (.tmp 42) 4), some (38, true)⟩,
  ⟨some 44, (.pick (.tmp 38) (.tmp 43) (.const (.bool false))), none⟩,
  ⟨some 45, (.move (.tmp 44)), none⟩,
  ⟨some 46, (.fieldAddr 49 (.tmp 2) 6), some (45, true)⟩,
  ⟨some 47, (.load 47 (.tmp 46)), some (45, true)⟩,
  ⟨some 48, (.fieldAddr 49 (.tmp 3) 6), some (45, true)⟩,
  ⟨some 49, (.load 47 (.tmp 48)), some (45, true)⟩,
  ⟨some 50, (.call { callee := (.value (.func 39)), args := #[(.tmp 47), (.tmp 49)], argTypes := #[47, 47] }), some (45, true)⟩,
  ⟨some 51, (.pick (.tmp 45) (.tmp 50) (.const (.bool false))), none⟩,
  ⟨some 52, (.move (.tmp 51)), none⟩,
  ⟨some 53, (.fieldAddr 49 (.tmp 2) 7), some (52, true)⟩,
  ⟨some 54, (.load 4 (.tmp 53)), some (52, true)⟩,
  ⟨some 55, (.fieldAddr 49 (.tmp 3) 7), some (52, true)⟩,
  ⟨some 56, (.load 4 (.tmp 55)), some (52, true)⟩,
  ⟨some 57, (.binOp .eql 4 (.tmp 54) (.tmp 56) 4), some (52, true)⟩,
  ⟨some 58, (.pick (.tmp 52) (.tmp 57) (.const (.bool false))), none⟩,
  ⟨some 59, (.move (.tmp 58)), none⟩,
  ⟨some 60, (.fieldAddr 49 (.tmp 2) 8), some (59, true)⟩,
  ⟨some 61, (.load 3 (.tmp 60)), some (59, true)⟩,
  ⟨some 62, (.fieldAddr 49 (.tmp 3) 8), some (59, true)⟩,
  ⟨some 63, (.load 3 (.tmp 62)), some (59, true)⟩,
  ⟨some 64, (.binOp .eql 3 (.tmp 61) (.tmp 63) 3), some (59, true)⟩,
  ⟨some 65, (.pick (.tmp 59) (.tmp 64) (.const (.bool false))), none⟩,
  ⟨some 4, (.assign (.tmp 65)), none⟩]
abbrev sheld_0 : Cc := (.seq (.region sheld_r1) .ret)
abbrev sheld : Cc := (.seq (.region sheld_r0) sheld_0)
theorem sheld_b : bodyC Try.f28 = sheld := by kernel_rfl
theorem sheld_k : cbl Try.prog 28 = true := by kernel_rfl
theorem sheld_res : Try.f28.results.toList = [(.tmp 4)] := by kernel_rfl
theorem sheld_o {ds : List D} {x : D} (hl : ds.length ≤ 66) (h : WC Try.prog [] sheld { n := 66, tm := numb 0 (ds.map .d), hp := [] } (retQ Try.prog [(.tmp 4)] [] (isD x))) : Pu Try.prog 28 ds x := Pu.ofWC (fn := Try.f28) rfl sheld_b (by simp) sheld_k Try.ntmps28 sheld_res hl h
/-- cubby/cubbyhelp.Same[string] -/
abbrev sameS_r0 : List Sop := [⟨some 6, (.assign (.const (.bool false))), none⟩]
abbrev sameS_r1 : List Sop := [⟨some 8, (.move (.tmp 0)), none⟩,
  ⟨some 9, (.call { callee := (.builtin .len), args := #[(.tmp 8)], argTypes := #[46] }), none⟩,
  ⟨some 10, (.move (.tmp 1)), none⟩,
  ⟨some 11, (.call { callee := (.builtin .len), args := #[(.tmp 10)], argTypes := #[46] }), none⟩,
  ⟨some 12, (.binOp .neq 3 (.tmp 9) (.tmp 11) 3), none⟩]
abbrev sameS_r2 : List Sop := [⟨some 6, (.assign (.const (.bool false))), none⟩]
abbrev sameS_0 : Cc := (.seq (.region sameS_r2) .ret)
abbrev sameS_1 : Cc := (.cond (.tmp 12) sameS_0 .skip)
abbrev sameS_2 : Cc := (.seq (.region sameS_r1) sameS_1)
abbrev sameS_r3 : List Sop := [⟨some 7, (.assign (.const (.int .i64 0))), none⟩]
abbrev sameS_r4 : List Sop := [⟨some 13, (.move (.tmp 7)), none⟩,
  ⟨some 14, (.move (.tmp 0)), none⟩,
  ⟨some 15, (.call { callee := (.builtin .len), args := #[(.tmp 14)], argTypes := #[46] }), none⟩,
  ⟨some 16, (.binOp .lss 3 (.tmp 13) (.tmp 15) 3), none⟩]
abbrev sameS_3 : Cc := (.cond (.tmp 16) .skip (.exit 0))
abbrev sameS_4 : Cc := (.seq (.region sameS_r4) sameS_3)
abbrev sameS_r6 : List (Sop × Kd) := [(⟨some 19, (.move (.tmp 2)), none⟩, .pu),
  (⟨some 20, (.move (.tmp 0)), none⟩, .pu),
  (⟨some 21, (.move (.tmp 7)), none⟩, .pu),
  (⟨some 22, (.indexAddr 46 (.tmp 20) (.tmp 21)), none⟩, .pu),
  (⟨some 23, (.load 9 (.tmp 22)), none⟩, .pu),
  (⟨some 24, (.move (.tmp 1)), none⟩, .pu),
  (⟨some 25, (.move (.tmp 7)), none⟩, .pu),
  (⟨some 26, (.indexAddr 46 (.tmp 24) (.tmp 25)), none⟩, .pu),
  (⟨some 27, (.load 9 (.tmp 26)), none⟩, .pu),
  (⟨some 28, (.call { callee := (.value (.tmp 19)), args := #[(.tmp 23), (.tmp 27)], argTypes := #[9, 9] }), none⟩, .ch [] false),
  (⟨some 29, (.unOp .not 4 (.tmp 28)), none⟩, .pu)]
abbrev sameS_r7 : List Sop := [⟨some 6, (.assign (.const (.bool false))), none⟩]
abbrev sameS_5 : Cc := (.seq (.region sameS_r7) .ret)
abbrev sameS_6 : Cc := (.cond (.tmp 29) sameS_5 .skip)
abbrev sameS_7 : Cc := (.seq (.draw sameS_r6) sameS_6)
abbrev sameS_8 : Cc := (.block 1 sameS_7)
abbrev sameS_r5 : List Sop := [⟨some 17, (.move (.tmp 7)), none⟩,
  ⟨some 18, (.binOp .add 3 (.tmp 17) (.const (.int .i64 1)) 3), none⟩,
  ⟨some 7, (.assign (.tmp 18)), none⟩]
abbrev sameS_9 : Cc := (.seq sameS_8 (.region sameS_r5))
abbrev sameS_10 : Cc := (.seq sameS_4 sameS_9)
abbrev sameS_11 : Cc := (.loop sameS_10)
abbrev sameS_12 : Cc := (.block 0 sameS_11)
abbrev sameS_13 : Cc := (.seq (.region sameS_r3) sameS_12)
abbrev sameS_r8 : List Sop := [⟨some 6, (.assign (.const (.bool true))), none⟩]
abbrev sameS_14 : Cc := (.seq (.region sameS_r8) .ret)
abbrev sameS_15 : Cc := (.seq sameS_13 sameS_14)
abbrev sameS_16 : Cc := (.seq sameS_2 sameS_15)
abbrev sameS : Cc := (.seq (.region sameS_r0) sameS_16)
theorem sameS_b : bodyC Try.f36 = sameS := by kernel_rfl
theorem sameS_k : cbl Try.prog 36 = true := by kernel_rfl
theorem sameS_res : Try.f36.results.toList = [(.tmp 6)] := by kernel_rfl
theorem sameS_o {ds : List D} {x : D} (hl : ds.length ≤ 30) (h : WC Try.prog [] sameS { n := 30, tm := numb 0 (ds.map .d), hp := [] } (retQ Try.prog [(.tmp 6)] [] (isD x))) : Pu Try.prog 36 ds x := Pu.ofWC (fn := Try.f36) rfl sameS_b (by simp) sameS_k Try.ntmps36 sameS_res hl h
/-- cubby/cubbyhelp.Plain[string]$1 -/
abbrev eqS_r0 : List Sop := [⟨some 4, (.assign (.const (.bool false))), none⟩]
abbrev eqS_r1 : List Sop := [⟨some 5, (.move (.tmp 0)), none⟩,
  ⟨some 6, (.move (.tmp 1)), none⟩,
  ⟨some 7, (.binOp .eql 9 (.tmp 5) (.tmp 6) 9), none⟩,
  ⟨some 4, (.assign (.tmp 7)), none⟩]
abbrev eqS_0 : Cc := (.seq (.region eqS_r1) .ret)
abbrev eqS : Cc := (.seq (.region eqS_r0) eqS_0)
theorem eqS_b : bodyC Try.f37 = eqS := by kernel_rfl
theorem eqS_k : cbl Try.prog 37 = true := by kernel_rfl
theorem eqS_res : Try.f37.results.toList = [(.tmp 4)] := by kernel_rfl
theorem eqS_o {ds : List D} {x : D} (hl : ds.length ≤ 8) (h : WC Try.prog [] eqS { n := 8, tm := numb 0 (ds.map .d), hp := [] } (retQ Try.prog [(.tmp 4)] [] (isD x))) : Pu Try.prog 37 ds x := Pu.ofWC (fn := Try.f37) rfl eqS_b (by simp) eqS_k Try.ntmps37 eqS_res hl h
/-- cubby/cubbyhelp.Bytes -/
abbrev sbytes_r0 : List Sop := [⟨some 4, (.assign (.const (.bool false))), none⟩]
abbrev sbytes_r1 : List Sop := [⟨some 5, (.move (.tmp 0)), none⟩,
  ⟨some 6, (.convert 47 9 (.tmp 5)), none⟩,
  ⟨some 7, (.move (.tmp 1)), none⟩,
  ⟨some 8, (.convert 47 9 (.tmp 7)), none⟩,
  ⟨some 9, (.binOp .eql 9 (.tmp 6) (.tmp 8) 9), none⟩,
  ⟨some 4, (.assign (.tmp 9)), none⟩]
abbrev sbytes_0 : Cc := (.seq (.region sbytes_r1) .ret)
abbrev sbytes : Cc := (.seq (.region sbytes_r0) sbytes_0)
theorem sbytes_b : bodyC Try.f39 = sbytes := by kernel_rfl
theorem sbytes_k : cbl Try.prog 39 = true := by kernel_rfl
theorem sbytes_res : Try.f39.results.toList = [(.tmp 4)] := by kernel_rfl
theorem sbytes_o {ds : List D} {x : D} (hl : ds.length ≤ 10) (h : WC Try.prog [] sbytes { n := 10, tm := numb 0 (ds.map .d), hp := [] } (retQ Try.prog [(.tmp 4)] [] (isD x))) : Pu Try.prog 39 ds x := Pu.ofWC (fn := Try.f39) rfl sbytes_b (by simp) sbytes_k Try.ntmps39 sbytes_res hl h
end Go.Proofs.Ythmiekppdhmbiaa
