/- What the law's proof leans on, part 19. Conditions: in each statement. -/
import Derived.Test.YtcfcphhamfhfcaaGreatDoorQVN
set_option linter.all false
namespace Go.Proofs.YtcfcphhamfhfcaaGreatDoor.v
open Go Go.Ab
set_option maxRecDepth 100000
set_option maxHeartbeats 4000000
set_option linter.unusedSimpArgs false
set_option linter.unusedVariables false
theorem t152 : type_of% (by have h := tf (zbi Tryz.f152 152 [0, 1, 2, 3, 5, 4, 6]); conv at h => { lhs; cbv }; exact h) := by kernel_rfl
theorem n152 : type_of% (by have h := zaa t152; simp only [RDs, ba0, ba1] at h; exact h) := zaa t152
theorem e152 : CX Tryz.f152 fun r l a => CE Tryz.prog (l 0) (.seq (.seq (r 3) (.cond (.tmp 9) .skip (.exit 0))) (.seq (.block 1 (r 5)) (r 4))) := cek
theorem d152 : CD Tryz.f152 fun r l a => (.seq (r 0) (.seq (r 1) (.seq (.seq (r 2) (.block 0 (.loop (l 0)))) (.seq (r 6) .ret)))) := cek
theorem yarv : RI Tryz.prog 152 Tryz.f152 21 [.tmp 2] := rik Tryz.func152
theorem t153 : type_of% (by have h := tf (zbi Tryz.f153 153 [0, 1, 2, 3, 5, 4, 6]); conv at h => { lhs; cbv }; exact h) := by kernel_rfl
theorem n153 : type_of% (by have h := zaa t153; simp only [RDs, ba0, ba1] at h; exact h) := zaa t153
theorem e153 : CX Tryz.f153 fun r l a => CE Tryz.prog (l 0) (.seq (.seq (r 3) (.cond (.tmp 7) .skip (.exit 0))) (.seq (.block 1 (r 5)) (r 4))) := cek
theorem d153 : CD Tryz.f153 fun r l a => (.seq (r 0) (.seq (r 1) (.seq (.seq (r 2) (.block 0 (.loop (l 0)))) (.seq (r 6) .ret)))) := cek
theorem yarw : RI Tryz.prog 153 Tryz.f153 13 [.tmp 2] := rik Tryz.func153
theorem t154 : type_of% (by have h := tf (zbi Tryz.f154 154 [0, 1]); conv at h => { lhs; cbv }; exact h) := by kernel_rfl
theorem n154 : type_of% (by have h := zaa t154; simp only [RDs, ba0, ba1] at h; exact h) := zaa t154
theorem d154 : CD Tryz.f154 fun r l a => (.seq (r 0) (.seq (r 1) .ret)) := cek
theorem yarx : RI Tryz.prog 154 Tryz.f154 32 [.tmp 2] := rik Tryz.func154
theorem t155 : type_of% (by have h := tf (zbi Tryz.f155 155 [0, 1]); conv at h => { lhs; cbv }; exact h) := by kernel_rfl
theorem n155 : type_of% (by have h := zaa t155; simp only [RDs, ba0, ba1] at h; exact h) := zaa t155
theorem d155 : CD Tryz.f155 fun r l a => (.seq (r 0) (.seq (r 1) .ret)) := cek
theorem yary : RI Tryz.prog 155 Tryz.f155 16 [.tmp 6] := rik Tryz.func155
theorem t156 : type_of% (by have h := tf (zbi Tryz.f156 156 [0, 1, 3]); conv at h => { lhs; cbv }; exact h) := by kernel_rfl
theorem n156 : type_of% (by have h := zaa t156; simp only [RDs, ba0, ba1] at h; exact h) := zaa t156
theorem yaon : RS Tryz.prog Tryz.f156 156 2 [4] none [oo 8 (.fa 3 (.s 2)), oo 9 (.ld none (.s 8)), oo 10 (.fa 4 (.s 2)), oo 11 (.ld none (.s 10)), oo 12 (.fa 2 (.s 3)), oo 13 (.ld none (.s 12)), oo 14 (.ixs 2 (.s 11) (.s 13)), oo 15 (.fa 1 (.s 14)), oo 16 (.ld none (.s 15)), oo 17 (.ixs 1 (.s 16) (.v (.int .i64 0))), oo 18 (.ld none (.s 17))] [oo 19 (.ixs 4 (.s 9) (.s 18)), oo 20 (.fa 1 (.s 19)), oo 21 (.ld none (.s 20)), oo 4 (.mv (.s 21))] := rsk
theorem d156 : CD Tryz.f156 fun r l a => (.seq (r 0) (.seq (.seq (r 1) (.cond (.tmp 7) (.seq (r 2) .ret) .skip)) (.seq (r 3) .ret))) := cek
theorem yarz : RI Tryz.prog 156 Tryz.f156 24 [.tmp 4] := rik Tryz.func156
theorem t157 : type_of% (by have h := tf (zbi Tryz.f157 157 [0, 1, 2, 3, 4, 5, 7, 6, 8]); conv at h => { lhs; cbv }; exact h) := by kernel_rfl
theorem n157 : type_of% (by have h := zaa t157; simp only [RDs, ba0, ba1] at h; exact h) := zaa t157
theorem e157 : CX Tryz.f157 fun r l a => CE Tryz.prog (l 0) (.seq (.seq (r 5) (.cond (.tmp 15) .skip (.exit 0))) (.seq (.block 1 (r 7)) (r 6))) := cek
theorem d157 : CD Tryz.f157 fun r l a => (.seq (r 0) (.seq (.seq (r 1) (.cond (.tmp 7) (r 2) .skip)) (.seq (r 3) (.seq (.seq (r 4) (.block 0 (.loop (l 0)))) (.seq (r 8) .ret))))) := cek
theorem yar0 : RI Tryz.prog 157 Tryz.f157 25 [.tmp 2] := rik Tryz.func157
theorem t158 : type_of% (by have h := tf (zbi Tryz.f158 158 [0, 1, 2, 3, 4, 5, 6, 7]); conv at h => { lhs; cbv }; exact h) := by kernel_rfl
theorem n158 : type_of% (by have h := zaa t158; simp only [RDs, ba0, ba1] at h; exact h) := zaa t158
theorem e158 : CX Tryz.f158 fun r l a => CE Tryz.prog (l 0) (.seq (r 2) (.seq (.cond (.tmp 9) .skip (.exit 0)) (.seq (.block 1 (.seq (r 3) (.seq (r 4) (.cond (.tmp 16) (.seq (r 5) .ret) .skip)))) (r 6)))) := cek
theorem d158 : CD Tryz.f158 fun r l a => (.seq (r 0) (.seq (.seq (r 1) (.block 0 (.loop (l 0)))) (.seq (r 7) .ret))) := cek
theorem yar1 : RI Tryz.prog 158 Tryz.f158 19 [.tmp 4] := rik Tryz.func158
theorem t159 : type_of% (by have h := tf (zbi Tryz.f159 159 [0, 1, 2, 3, 4, 5, 6, 7]); conv at h => { lhs; cbv }; exact h) := by kernel_rfl
theorem n159 : type_of% (by have h := zaa t159; simp only [RDs, ba0, ba1] at h; exact h) := zaa t159
theorem e159 : CX Tryz.f159 fun r l a => CE Tryz.prog (l 0) (.seq (r 2) (.seq (.cond (.tmp 9) .skip (.exit 0)) (.seq (.block 1 (.seq (r 3) (.seq (r 4) (.cond (.tmp 16) (.seq (r 5) .ret) .skip)))) (r 6)))) := cek
theorem d159 : CD Tryz.f159 fun r l a => (.seq (r 0) (.seq (.seq (r 1) (.block 0 (.loop (l 0)))) (.seq (r 7) .ret))) := cek
theorem yae4 : RI Tryz.prog 159 Tryz.f159 19 [.tmp 4] := rik Tryz.func159
theorem t160 : type_of% (by have h := tf (zbi Tryz.f160 160 [0, 1, 2, 3, 4, 5, 6]); conv at h => { lhs; cbv }; exact h) := by kernel_rfl
theorem n160 : type_of% (by have h := zaa t160; simp only [RDs, ba0, ba1] at h; exact h) := zaa t160
theorem e160 : CX Tryz.f160 fun r l a => CE Tryz.prog (l 0) (.seq (r 2) (.seq (.cond (.tmp 9) .skip (.exit 0)) (.seq (.block 1 (.seq (r 3) (r 4))) (r 5)))) := cek
theorem d160 : CD Tryz.f160 fun r l a => (.seq (r 0) (.seq (.seq (r 1) (.block 0 (.loop (l 0)))) (.seq (r 6) .ret))) := cek
theorem yar2 : RI Tryz.prog 160 Tryz.f160 18 [.tmp 2] := rik Tryz.func160
theorem t161 : type_of% (by have h := tf (zbi Tryz.f161 161 [0, 1, 2]); conv at h => { lhs; cbv }; exact h) := by kernel_rfl
theorem n161 : type_of% (by have h := zaa t161; simp only [RDs, ba0, ba1] at h; exact h) := zaa t161
theorem yaoo : RS Tryz.prog Tryz.f161 161 3 [4] none [oo 10 (.fa 3 (.s 2)), oo 11 (.ld none (.s 10)), oo 12 (.fa 4 (.s 2)), oo 13 (.ld none (.s 12)), oo 14 (.fa 2 (.s 3)), oo 15 (.ld none (.s 14)), oo 16 (.ixs 2 (.s 13) (.s 15)), oo 17 (.fa 1 (.s 16)), oo 18 (.ld none (.s 17)), oo 19 (.ixs 1 (.s 18) (.v (.int .i64 0))), oo 20 (.ld none (.s 19))] [oo 21 (.ixs 4 (.s 11) (.s 20)), oo 22 (.fa 1 (.s 21)), oo 23 (.ld none (.s 22)), oo 4 (.mv (.s 23))] := rsk
theorem d161 : CD Tryz.f161 fun r l a => (.seq (r 0) (.seq (.seq (r 1) (.cond (.tmp 7) (.seq (r 2) .ret) .skip)) (.seq (r 3) .ret))) := cek
theorem yar3 : RI Tryz.prog 161 Tryz.f161 24 [.tmp 4] := rik Tryz.func161
theorem t162 : type_of% (by have h := tf (zbi Tryz.f162 162 [0, 1, 2, 3, 4, 5, 6]); conv at h => { lhs; cbv }; exact h) := by kernel_rfl
theorem n162 : type_of% (by have h := zaa t162; simp only [RDs, ba0, ba1] at h; exact h) := zaa t162
theorem e162 : CX Tryz.f162 fun r l a => CE Tryz.prog (l 0) (.seq (r 1) (.seq (.cond (.tmp 11) .skip (.exit 0)) (.seq (.block 1 (.seq (r 2) (.seq (r 3) (.seq (.seq (r 4) (.cond (.tmp 24) .ret .skip)) (r 5))))) (r 6)))) := cek
theorem d162 : CD Tryz.f162 fun r l a => (.seq (r 0) (.block 0 (.loop (l 0)))) := cek
theorem yar4 : RI Tryz.prog 162 Tryz.f162 30 [] := rik Tryz.func162
theorem t163 : type_of% (by have h := tf (zbi Tryz.f163 163 [0, 1, 2, 3, 4, 5, 6, 7]); conv at h => { lhs; cbv }; exact h) := by kernel_rfl
theorem n163 : type_of% (by have h := zaa t163; simp only [RDs, ba0, ba1] at h; exact h) := zaa t163
theorem e163 : CX Tryz.f163 fun r l a => CE Tryz.prog (l 0) (.seq (r 2) (.seq (.cond (.tmp 8) .skip (.exit 0)) (.seq (.block 1 (.seq (r 3) (.seq (r 4) (.cond (.tmp 39) (.seq (r 5) .ret) .skip)))) (r 6)))) := cek
theorem d163 : CD Tryz.f163 fun r l a => (.seq (r 0) (.seq (.seq (r 1) (.block 0 (.loop (l 0)))) (.seq (r 7) .ret))) := cek
theorem yae5 : RI Tryz.prog 163 Tryz.f163 41 [.tmp 2] := rik Tryz.func163
theorem t167 : type_of% (by have h := tf (zbi Tryz.f167 167 [0, 1]); conv at h => { lhs; cbv }; exact h) := by kernel_rfl
theorem n167 : type_of% (by have h := zaa t167; simp only [RDs, ba0, ba1] at h; exact h) := zaa t167
theorem d167 : CD Tryz.f167 fun r l a => (.seq (r 0) (.seq (r 1) .ret)) := cek
theorem yar5 : RI Tryz.prog 167 Tryz.f167 6 [.tmp 2] := rik Tryz.func167
theorem t168 : type_of% (by have h := tf (zbi Tryz.f168 168 [0, 1, 2, 3, 4, 5, 6, 7, 9, 10, 13, 11, 8, 14]); conv at h => { lhs; cbv }; exact h) := by kernel_rfl
theorem n168 : type_of% (by have h := zaa t168; simp only [RDs, ba0, ba1] at h; exact h) := zaa t168
theorem zfr : RS Tryz.prog Tryz.f168 168 12 [3, 4, 5, 53] none [oo 30 (.mv (.s 3)), oo 31 (.mv (.s 5)), oo 32 (.ixs 3 (.s 30) (.s 31)), oo 33 (.fa 0 (.s 32)), oo 34 (.ld none (.s 33)), oo 35 (.mv (.s 3)), oo 36 (.mv (.s 4)), oo 37 (.ixs 3 (.s 35) (.s 36)), oo 38 (.fa 0 (.s 37)), oo 39 (.ld none (.s 38)), oo 40 (.bin .eql 9 (.s 34) (.s 39)), oo 41 (.mv (.s 40)), og 42 41 true (.mv (.s 3)), og 43 41 true (.mv (.s 5)), og 44 41 true (.ixs 3 (.s 42) (.s 43)), og 45 41 true (.fa 1 (.s 44)), og 46 41 true (.ld none (.s 45)), og 47 41 true (.mv (.s 3)), og 48 41 true (.mv (.s 4)), og 49 41 true (.ixs 3 (.s 47) (.s 48)), og 50 41 true (.fa 1 (.s 49)), og 51 41 true (.ld none (.s 50))] [og 52 41 true (.bin .neq 3 (.s 46) (.s 51)), oo 53 (.pick (.s 41) (.s 52) (.v (.bool false)))] := rsk
theorem e168 : CX Tryz.f168 fun r l a => CE Tryz.prog (l 1) (.seq (.seq (r 10) (.cond (.tmp 27) .skip (.exit 2))) (.seq (.block 3 (.seq (r 12) (.cond (.tmp 53) (.seq (r 13) .ret) .skip))) (r 11))) ∧
 CE Tryz.prog (l 0) (.seq (.seq (r 7) (.cond (.tmp 22) .skip (.exit 0))) (.seq (.block 1 (.seq (r 9) (.block 2 (.loop (l 1))))) (r 8))) := ⟨cek, cek⟩
theorem d168 : CD Tryz.f168 fun r l a => (.seq (r 0) (.seq (.seq (r 1) (.cond (.tmp 13) (.seq (r 2) .ret) .skip)) (.seq (.seq (r 3) (.cond (.tmp 16) (.seq (r 4) .ret) .skip)) (.seq (r 5) (.seq (.seq (r 6) (.block 0 (.loop (l 0)))) (.seq (r 14) .ret)))))) := cek
theorem yar6 : RI Tryz.prog 168 Tryz.f168 54 [.tmp 2] := rik Tryz.func168
theorem t169 : type_of% (by have h := tf (zbi Tryz.f169 169 [0, 1, 2, 4, 5, 6, 9, 7, 10]); conv at h => { lhs; cbv }; exact h) := by kernel_rfl
theorem n169 : type_of% (by have h := zaa t169; simp only [RDs, ba0, ba1] at h; exact h) := zaa t169
theorem ziv : RS Tryz.prog Tryz.f169 169 3 [3, 4, 5, 33] none [oo 21 (.fa 0 (.s 5)), oo 22 (.ld none (.s 21)), oo 23 (.bin .eql 5 (.s 22) (.v (.int .u8 24))), oo 24 (.mv (.s 23)), og 25 24 true (.fa 5 (.s 5)), og 26 24 true (.ld none (.s 25)), og 27 24 true (.ixs 6 (.s 26) (.v (.int .i64 0))), og 28 24 true (.fa 1 (.s 27)), og 29 24 true (.ld none (.s 28)), og 30 24 true (.fa 2 (.s 3)), og 31 24 true (.ld none (.s 30))] [og 32 24 true (.bin .neq 3 (.s 29) (.s 31)), oo 33 (.pick (.s 24) (.s 32) (.v (.bool false)))] := rsk
theorem ziw : RS Tryz.prog Tryz.f169 169 8 [3, 4, 5, 7, 49] none [oo 41 (.ld (some 7) (.s 3)), oo 42 (.ld (some 9) (.s 4)), oo 43 (.fa 5 (.s 5)), oo 44 (.ld none (.s 43)), oo 45 (.mv (.s 7)), oo 46 (.ixs 6 (.s 44) (.s 45)), oo 47 (.ld (some 6) (.s 46))] [oo 48 (.call 169 [(.s 41), (.s 42), (.s 47)]), oo 49 (.un .not (.s 48))] := rsk
theorem e169 : CX Tryz.f169 fun r l a => CE Tryz.prog (l 0) (.seq (.seq (r 6) (.cond (.tmp 38) .skip (.exit 0))) (.seq (.block 1 (.seq (r 8) (.cond (.tmp 49) (.seq (r 9) .ret) .skip))) (r 7))) := cek
theorem d169 : CD Tryz.f169 fun r l a => (.seq (r 0) (.seq (.seq (r 1) (.cond (.tmp 20) (.seq (r 2) .ret) .skip)) (.seq (.seq (r 3) (.cond (.tmp 33) (.seq (r 4) .ret) .skip)) (.seq (.seq (r 5) (.block 0 (.loop (l 0)))) (.seq (r 10) .ret))))) := cek
theorem yar7 : RI Tryz.prog 169 Tryz.f169 50 [.tmp 6] := rik Tryz.func169
theorem t170 : type_of% (by have h := tf (zbi Tryz.f170 170 [0, 1, 2, 3, 4, 5, 6, 7, 8, 9, 10]); conv at h => { lhs; cbv }; exact h) := by kernel_rfl
theorem n170 : type_of% (by have h := zaa t170; simp only [RDs, ba0, ba1] at h; exact h) := zaa t170
theorem zmq : zs0 Tryz.prog 36 = some none := by kernel_rfl
theorem e170 : CX Tryz.f170 fun r l a => CE Tryz.prog (a 0) (r 4) ∧
 CE Tryz.prog (l 0) (.block 1 (.seq (r 5) (.cond (.tmp 19) (.seq (r 6) .ret) .skip))) := ⟨cek, cek⟩
theorem d170 : CD Tryz.f170 fun r l a => (.seq (r 0) (.seq (.seq (r 1) (.cond (.tmp 13) (.seq (r 2) .ret) .skip)) (.seq (.seq (r 3) (.block 0 (.rangeFunc (.tmp 15) #[16] (a 0) (l 0)))) (.seq (.seq (r 7) (.seq (r 8) (.cond (.tmp 26) (.seq (r 9) .ret) .skip))) (.seq (r 10) .ret))))) := cek
theorem yar8 : RI Tryz.prog 170 Tryz.f170 27 [.cell 2 36] := rik Tryz.func170
theorem t171 : type_of% (by have h := tf (zbi Tryz.f171 171 [0, 1, 2, 3, 4, 6, 7, 8, 9, 10]); conv at h => { lhs; cbv }; exact h) := by kernel_rfl
theorem n171 : type_of% (by have h := zaa t171; simp only [RDs, ba0, ba1] at h; exact h) := zaa t171
theorem zv4 : RL Tryz.prog Tryz.f171 171 5 [0, 1, 5] none [] [(oo 24 (.mv (.s 0)), [], []), (oo 25 (.fa 5 (.s 5)), [], []), (oo 26 (.ld none (.s 25)), [], []), (oo 27 (.ixs 6 (.s 26) (.v (.int .i64 0))), [], []), (oo 28 (.fa 1 (.s 27)), [], []), (oo 29 (.ld none (.s 28)), [], []), (oo 30 (.mv (.s 0)), [], []), (oo 31 (.nz (.s 30)), [], []), (oo 32 (.fa 0 (.s 31)), [], []), (oo 33 (.fa 2 (.s 32)), [], []), (oo 34 (.ld none (.s 33)), [], []), (oo 35 (.bin .eql 3 (.s 29) (.s 34)), [], []), (oo 36 (.bsl 4 1 [(.bool false)] 1 [(0, (.s 35))]), [], [])] [oo 37 (.call 85 [(.s 24), (.s 36)])] := rlk
theorem e171 : CX Tryz.f171 fun r l a => CE Tryz.prog (l 0) (.seq (r 7) (.seq (.cond (.tmp 42) .skip (.exit 1)) (.seq (.block 2 (.seq (r 8) (r 9))) (r 10)))) := cek
theorem d171 : CD Tryz.f171 fun r l a => (.seq (r 0) (.seq (.seq (r 1) (.block 0 (.seq (r 2) (.cond (.tmp 10) (r 3) (.seq (r 4) (.cond (.tmp 22) (r 5) .skip)))))) (.seq (r 6) (.block 1 (.loop (l 0)))))) := cek
theorem yar9 : RI Tryz.prog 171 Tryz.f171 50 [] := rik Tryz.func171
theorem t182 : type_of% (by have h := tf (zbi Tryz.f182 182 [0, 1, 2, 3, 5, 4, 6]); conv at h => { lhs; cbv }; exact h) := by kernel_rfl
theorem n182 : type_of% (by have h := zaa t182; simp only [RDs, ba0, ba1] at h; exact h) := zaa t182
theorem e182 : CX Tryz.f182 fun r l a => CE Tryz.prog (l 0) (.seq (.seq (r 3) (.cond (.tmp 9) .skip (.exit 0))) (.seq (.block 1 (r 5)) (r 4))) := cek
theorem d182 : CD Tryz.f182 fun r l a => (.seq (r 0) (.seq (r 1) (.seq (.seq (r 2) (.block 0 (.loop (l 0)))) (.seq (r 6) .ret)))) := cek
theorem yasa : RI Tryz.prog 182 Tryz.f182 22 [.tmp 2] := rik Tryz.func182
theorem t183 : type_of% (by have h := tf (zbi Tryz.f183 183 [0, 1, 2, 4, 5, 3, 7, 8, 9, 10, 11, 12]); conv at h => { lhs; cbv }; exact h) := by kernel_rfl
theorem n183 : type_of% (by have h := zaa t183; simp only [RDs, ba0, ba1] at h; exact h) := zaa t183
theorem yaql : type_of% (by have h := tf (tab Tryz.f183 183 [13, 14, 15, 16, 17]); conv at h => { lhs; cbv }; exact h) := by kernel_rfl
theorem zmf : type_of% (by have h := zar yaql; simp only [RDs, ba0, ba1] at h; exact h) := zar yaql
theorem yaqm : type_of% (by have h := tf (tab Tryz.f183 183 [18, 19, 20, 21, 22, 23, 24, 25]); conv at h => { lhs; cbv }; exact h) := by kernel_rfl
theorem zmg : type_of% (by have h := zar yaqm; simp only [RDs, ba0, ba1] at h; exact h) := zar yaqm
theorem yaqn : type_of% (by have h := tf (tab Tryz.f183 183 [26, 27, 28, 29, 30]); conv at h => { lhs; cbv }; exact h) := by kernel_rfl
theorem zmh : type_of% (by have h := zar yaqn; simp only [RDs, ba0, ba1] at h; exact h) := zar yaqn
theorem yaqo : type_of% (by have h := tf (tab Tryz.f183 183 [31, 32, 33, 34, 35, 36]); conv at h => { lhs; cbv }; exact h) := by kernel_rfl
theorem zmi : type_of% (by have h := zar yaqo; simp only [RDs, ba0, ba1] at h; exact h) := zar yaqo
theorem zlx : RS Tryz.prog Tryz.f183 183 6 [1, 4, 5] none [oo 21 (.fa 1 (.s 1)), oo 22 (.ld none (.s 21)), oo 23 (.fa 5 (.s 1)), oo 24 (.ld none (.s 23)), oo 25 (.lenl (.s 24)), oo 4 (.mv (.s 22))] [oo 5 (.mv (.s 25))] := rsk
theorem e183 : CX Tryz.f183 fun r l a => CE Tryz.prog (l 0) (.seq (.seq (r 2) (.cond (.tmp 11) .skip (.exit 0))) (.seq (.block 1 (.seq (r 4) (.cond (.tmp 20) (.seq (r 5) .ret) .skip))) (r 3))) := cek
theorem d183 : CD Tryz.f183 fun r l a => (.seq (r 0) (.seq (.seq (r 1) (.block 0 (.loop (l 0)))) (.seq (r 6) (.seq (.seq (r 7) (.cond (.tmp 28) (.seq (r 8) .ret) .skip)) (.seq (.seq (r 9) (.block 2 (.seq (r 10) (.cond (.tmp 31) (.seq (r 11) .ret) (.seq (r 12) (.cond (.tmp 51) (.seq (r 13) .ret) .skip)))))) (.seq (.seq (r 14) (.cond (.tmp 101) (.seq (r 15) .ret) .skip)) (.seq (r 16) (.seq (.seq (r 17) (.block 3 (.seq (.seq (r 18) (.cond (.tmp 109) .skip (r 19))) (.cond (.tmp 109) (.seq (r 20) .ret) (.seq (.seq (r 21) (.cond (.tmp 119) .skip (.seq (r 22) (.cond (.tmp 119) .skip (r 23))))) (.cond (.tmp 119) (.seq (r 24) .ret) (.seq (r 25) (.cond (.tmp 138) (.seq (r 26) .ret) (.seq (r 27) (.cond (.tmp 164) (.seq (r 28) .ret) (.seq (r 29) (.cond (.tmp 179) (.seq (r 30) .ret) (.seq (.seq (r 31) (.cond (.tmp 202) .skip (r 32))) (.cond (.tmp 202) (.seq (r 33) .ret) (.seq (r 34) (.cond (.tmp 212) (.seq (r 35) .ret) .skip)))))))))))))))) (.seq (r 36) .ret))))))))) := cek
theorem znb : RI Tryz.prog 183 Tryz.f183 236 [.tmp 2] := rik Tryz.func183
theorem t184 : type_of% (by have h := tf (zbi Tryz.f184 184 [0, 1, 2, 3, 4, 5, 7, 6, 8]); conv at h => { lhs; cbv }; exact h) := by kernel_rfl
theorem n184 : type_of% (by have h := zaa t184; simp only [RDs, ba0, ba1] at h; exact h) := zaa t184
theorem e184 : CX Tryz.f184 fun r l a => CE Tryz.prog (l 0) (.seq (.seq (r 5) (.cond (.tmp 20) .skip (.exit 0))) (.seq (.block 1 (r 7)) (r 6))) := cek
theorem d184 : CD Tryz.f184 fun r l a => (.seq (r 0) (.seq (r 1) (.seq (.seq (r 2) (.cond (.tmp 7) (r 3) .skip)) (.seq (.seq (r 4) (.block 0 (.loop (l 0)))) (.seq (r 8) .ret))))) := cek
theorem yasb : RI Tryz.prog 184 Tryz.f184 32 [.tmp 2] := rik Tryz.func184
theorem t185 : type_of% (by have h := tf (zbi Tryz.f185 185 [0, 1, 2, 3, 4, 6, 5, 8, 9, 11, 12]); conv at h => { lhs; cbv }; exact h) := by kernel_rfl
theorem n185 : type_of% (by have h := zaa t185; simp only [RDs, ba0, ba1] at h; exact h) := zaa t185
theorem yaqp : type_of% (by have h := tf (tab Tryz.f185 185 [10, 13]); conv at h => { lhs; cbv }; exact h) := by kernel_rfl
theorem zkz : type_of% (by have h := zar yaqp; simp only [RDs, ba0, ba1] at h; exact h) := zar yaqp
theorem zko : RS Tryz.prog Tryz.f185 185 7 [8] none [oo 32 (.mv (.s 3)), oo 33 (.ld (some 7) (.s 4)), oo 34 (.fa 3 (.s 5)), oo 35 (.ld none (.s 34)), oo 36 (.mv (.s 9)), oo 37 (.ixs 6 (.s 35) (.s 36)), oo 38 (.ld (some 6) (.s 37)), oo 39 (.call 156 [(.s 33), (.s 38)])] [oo 40 (.bin .eql 3 (.s 32) (.s 39)), oo 8 (.mv (.s 40))] := rsk
theorem e185 : CX Tryz.f185 fun r l a => CE Tryz.prog (l 0) (.seq (.seq (r 4) (.cond (.tmp 21) .skip (.exit 0))) (.seq (.block 1 (.seq (r 6) (.cond (.tmp 31) (.seq (r 7) .ret) .skip))) (r 5))) ∧
 CE Tryz.prog (l 1) (.seq (.seq (r 9) (.cond (.tmp 45) .skip (.exit 2))) (.seq (.block 3 (.seq (r 11) (.cond (.tmp 56) (.seq (r 12) .ret) .skip))) (r 10))) := ⟨cek, cek⟩
theorem d185 : CD Tryz.f185 fun r l a => (.seq (r 0) (.seq (.seq (r 1) (.cond (.tmp 12) (.seq (r 2) .ret) .skip)) (.seq (.seq (r 3) (.block 0 (.loop (l 0)))) (.seq (.seq (r 8) (.block 2 (.loop (l 1)))) (.seq (r 13) .ret))))) := cek
theorem yasc : RI Tryz.prog 185 Tryz.f185 65 [.tmp 8] := rik Tryz.func185
theorem t186 : type_of% (by have h := tf (zbi Tryz.f186 186 [0, 1, 2, 3, 4]); conv at h => { lhs; cbv }; exact h) := by kernel_rfl
theorem n186 : type_of% (by have h := zaa t186; simp only [RDs, ba0, ba1] at h; exact h) := zaa t186
theorem e186 : CX Tryz.f186 fun r l a => CE Tryz.prog (a 0) .skip ∧
 CE Tryz.prog (l 0) (.block 1 (r 3)) := ⟨cek, cek⟩
theorem d186 : CD Tryz.f186 fun r l a => (.seq (r 0) (.seq (r 1) (.seq (.seq (r 2) (.block 0 (.rangeFunc (.tmp 5) #[6] (a 0) (l 0)))) (.seq (r 4) .ret)))) := cek
theorem yasd : RI Tryz.prog 186 Tryz.f186 10 [.tmp 2] := rik Tryz.func186
theorem t187 : type_of% (by have h := tf (zbi Tryz.f187 187 [0, 1, 2, 3, 4, 5, 6, 7]); conv at h => { lhs; cbv }; exact h) := by kernel_rfl
theorem n187 : type_of% (by have h := zaa t187; simp only [RDs, ba0, ba1] at h; exact h) := zaa t187
theorem e187 : CX Tryz.f187 fun r l a => CE Tryz.prog (l 0) (.seq (r 3) (.seq (.cond (.tmp 10) .skip (.exit 0)) (.seq (.block 1 (.seq (r 4) (r 5))) (r 6)))) := cek
theorem d187 : CD Tryz.f187 fun r l a => (.seq (r 0) (.seq (r 1) (.seq (.seq (r 2) (.block 0 (.loop (l 0)))) (.seq (r 7) .ret)))) := cek
theorem yase : RI Tryz.prog 187 Tryz.f187 20 [.tmp 2] := rik Tryz.func187
theorem t188 : type_of% (by have h := tf (zbi Tryz.f188 188 [0, 1]); conv at h => { lhs; cbv }; exact h) := by kernel_rfl
theorem n188 : type_of% (by have h := zaa t188; simp only [RDs, ba0, ba1] at h; exact h) := zaa t188
theorem d188 : CD Tryz.f188 fun r l a => (.seq (r 0) (.seq (r 1) .ret)) := cek
theorem yasf : RI Tryz.prog 188 Tryz.f188 4 [.tmp 2] := rik Tryz.func188
theorem t189 : type_of% (by have h := tf (zbi Tryz.f189 189 [0, 1, 2, 3, 4, 5]); conv at h => { lhs; cbv }; exact h) := by kernel_rfl
theorem n189 : type_of% (by have h := zaa t189; simp only [RDs, ba0, ba1] at h; exact h) := zaa t189
theorem yaqq : type_of% (by have h := tf (tab Tryz.f189 189 [6, 7]); conv at h => { lhs; cbv }; exact h) := by kernel_rfl
theorem yaax : type_of% (by have h := zar yaqq; simp only [RDs, ba0, ba1] at h; exact h) := zar yaqq
theorem d189 : CD Tryz.f189 fun r l a => (.seq (r 0) (.seq (.seq (r 1) (.cond (.tmp 9) (.seq (r 2) .ret) .skip)) (.seq (r 3) (.seq (.seq (r 4) (.cond (.tmp 17) (.seq (r 5) (.seq (r 6) .ret)) .skip)) (.seq (r 7) .ret))))) := cek
theorem yasg : RI Tryz.prog 189 Tryz.f189 92 [.tmp 2] := rik Tryz.func189
theorem t190 : type_of% (by have h := tf (zbi Tryz.f190 190 [0, 1, 2, 3, 4, 5, 6, 7, 8, 9]); conv at h => { lhs; cbv }; exact h) := by kernel_rfl
theorem n190 : type_of% (by have h := zaa t190; simp only [RDs, ba0, ba1] at h; exact h) := zaa t190
theorem zqv : zs0 Tryz.prog 181 = some none := by kernel_rfl
theorem zqw : zs0 Tryz.prog 4 = some none := by kernel_rfl
theorem e190 : CX Tryz.f190 fun r l a => CE Tryz.prog (a 0) (r 3) ∧
 CE Tryz.prog (l 0) (.block 1 (.seq (.seq (r 4) (.cond (.tmp 14) (.exit 1) .skip)) (.seq (.seq (r 5) (.seq (r 6) (.cond (.tmp 28) (.seq (r 7) .ret) .skip))) (r 8)))) := ⟨cek, cek⟩
theorem d190 : CD Tryz.f190 fun r l a => (.seq (r 0) (.seq (r 1) (.seq (.seq (r 2) (.block 0 (.rangeFunc (.tmp 10) #[11] (a 0) (l 0)))) (.seq (r 9) .ret)))) := cek
theorem yash : RI Tryz.prog 190 Tryz.f190 35 [.cell 2 181, .cell 3 4] := rik Tryz.func190
theorem t196 : type_of% (by have h := tf (zbi Tryz.f196 196 [0, 1, 2, 3]); conv at h => { lhs; cbv }; exact h) := by kernel_rfl
theorem n196 : type_of% (by have h := zaa t196; simp only [RDs, ba0, ba1] at h; exact h) := zaa t196
theorem d196 : CD Tryz.f196 fun r l a => (.seq (r 0) (.seq (.seq (r 1) (.cond (.tmp 10) (.seq (r 2) .ret) .skip)) (.seq (r 3) .ret))) := cek
theorem yasi : RI Tryz.prog 196 Tryz.f196 16 [.tmp 2] := rik Tryz.func196
theorem t197 : type_of% (by have h := tf (zbi Tryz.f197 197 [0, 1]); conv at h => { lhs; cbv }; exact h) := by kernel_rfl
theorem n197 : type_of% (by have h := zaa t197; simp only [RDs, ba0, ba1] at h; exact h) := zaa t197
theorem d197 : CD Tryz.f197 fun r l a => (.seq (r 0) (.seq (r 1) .ret)) := cek
theorem yasj : RI Tryz.prog 197 Tryz.f197 17 [.tmp 2] := rik Tryz.func197
theorem t198 : type_of% (by have h := tf (zbi Tryz.f198 198 [0]); conv at h => { lhs; cbv }; exact h) := by kernel_rfl
theorem n198 : type_of% (by have h := zaa t198; simp only [RDs, ba0, ba1] at h; exact h) := zaa t198
theorem d198 : CD Tryz.f198 fun r l a => (r 0) := cek
theorem zpl : RI Tryz.prog 198 Tryz.f198 6 [] := rik Tryz.func198
theorem t199 : type_of% (by have h := tf (zbi Tryz.f199 199 [0, 1, 2, 3, 4, 5, 6, 7, 8, 9]); conv at h => { lhs; cbv }; exact h) := by kernel_rfl
theorem zyl : type_of% (by have h := zaa t199; simp only [RDs, ba0, ba1] at h; exact h) := zaa t199
theorem zya : CX Tryz.f199 fun r l a => CE Tryz.prog (l 0) (.seq (r 4) (.seq (.cond (.tmp 15) .skip (.exit 0)) (.seq (.block 1 (.seq (r 5) (.seq (r 6) (.cond (.tmp 21) (.seq (r 7) .ret) .skip)))) (r 8)))) := cek
theorem zx7 : CD Tryz.f199 fun r l a => (.seq (r 0) (.seq (.seq (r 1) (.cond (.tmp 10) (.seq (r 2) .ret) .skip)) (.seq (.seq (r 3) (.block 0 (.loop (l 0)))) (.seq (r 9) .ret)))) := cek
theorem zxz : RI Tryz.prog 199 Tryz.f199 23 [.tmp 4] := rik Tryz.func199
theorem t200 : type_of% (by have h := tf (zbi Tryz.f200 200 [0, 1, 2]); conv at h => { lhs; cbv }; exact h) := by kernel_rfl
theorem n200 : type_of% (by have h := zaa t200; simp only [RDs, ba0, ba1] at h; exact h) := zaa t200
theorem yapw : zs0 Tryz.prog 236 = some (some 3) := by kernel_rfl
theorem yaop : RL Tryz.prog Tryz.f200 200 3 [2, 3] none [(8, 2)] [(oo 7 (.mv (.s 0)), [], []), (oo 8 (.raw (.indexAddr 243 (.global 0) (.tmp 7))), [], []), (oo 9 (.ld (some 3) (.s 8)), [], []), (oo 10 (.mv (.s 0)), [8], [1]), (oo 11 (.raw (.indexAddr 243 (.global 0) (.tmp 10))), [8], [1]), (oo 12 (.fa 1 (.s 11)), [8], [1]), (oo 13 (.ld none (.s 12)), [8], [1]), (oo 14 (.bin .gtr 3 (.s 13) (.v (.int .i64 0))), [8], [1]), (on (.st 3 (.s 2) (.s 9)), [], [4])] [oo 3 (.mv (.s 14))] := rlk
theorem d200 : CD Tryz.f200 fun r l a => (.seq (r 0) (.seq (.seq (r 1) (.cond (.tmp 5) (.seq (r 2) .ret) .skip)) (.seq (r 3) .ret))) := cek
theorem yask : RI Tryz.prog 200 Tryz.f200 15 [.cell 2 236, .tmp 3] := rik Tryz.func200
theorem t201 : type_of% (by have h := tf (zbi Tryz.f201 201 [0, 1]); conv at h => { lhs; cbv }; exact h) := by kernel_rfl
theorem n201 : type_of% (by have h := zaa t201; simp only [RDs, ba0, ba1] at h; exact h) := zaa t201
theorem d201 : CD Tryz.f201 fun r l a => (.seq (r 0) (.seq (r 1) .ret)) := cek
theorem yasl : RI Tryz.prog 201 Tryz.f201 6 [.tmp 2] := rik Tryz.func201
theorem t202 : type_of% (by have h := tf (zbi Tryz.f202 202 [0, 1, 2, 3, 4, 5, 6, 7, 8, 10, 12]); conv at h => { lhs; cbv }; exact h) := by kernel_rfl
theorem n202 : type_of% (by have h := zaa t202; simp only [RDs, ba0, ba1] at h; exact h) := zaa t202
theorem yaqr : type_of% (by have h := tf (tab Tryz.f202 202 [13, 14, 15, 16]); conv at h => { lhs; cbv }; exact h) := by kernel_rfl
theorem zjb : type_of% (by have h := zar yaqr; simp only [RDs, ba0, ba1] at h; exact h) := zar yaqr
theorem zix : RS Tryz.prog Tryz.f202 202 9 [4] none [oo 37 (.mv (.s 6)), oo 38 (.bin .eql 3 (.s 37) (.v (.int .i64 1))), oo 39 (.mv (.s 38)), og 40 39 true (.fa 5 (.s 2)), og 41 39 true (.ld none (.s 40)), og 42 39 true (.ixs 6 (.s 41) (.v (.int .i64 1))), og 43 39 true (.fa 1 (.s 42)), og 44 39 true (.ld none (.s 43)), og 45 39 true (.ld none (.s 5)), og 46 39 true (.bin .eql 3 (.s 44) (.s 45)), oo 47 (.pick (.s 39) (.s 46) (.v (.bool false))), oo 48 (.mv (.s 47)), og 49 48 true (.fa 5 (.s 2)), og 50 48 true (.ld none (.s 49)), og 51 48 true (.ixs 6 (.s 50) (.v (.int .i64 2))), og 52 48 true (.fa 1 (.s 51)), og 53 48 true (.ld none (.s 52)), og 54 48 true (.ld none (.s 5))] [og 55 48 true (.bin .eql 3 (.s 53) (.s 54)), oo 56 (.pick (.s 48) (.s 55) (.v (.bool false))), oo 4 (.mv (.s 56))] := rsk
theorem zfs : RS Tryz.prog Tryz.f202 202 11 [4] (some [4]) [oo 59 (.mv (.s 6)), oo 60 (.call 99 [(.s 59)]), oo 61 (.mv (.s 60)), og 62 61 true (.fa 5 (.s 2)), og 63 61 true (.ld none (.s 62)), og 64 61 true (.ixs 6 (.s 63) (.v (.int .i64 1))), og 65 61 true (.fa 1 (.s 64)), og 66 61 true (.ld none (.s 65)), og 67 61 true (.call 99 [(.s 66)]), oo 68 (.pick (.s 61) (.s 67) (.v (.bool false))), oo 69 (.mv (.s 68)), og 70 69 true (.mv (.s 6)), og 71 69 true (.fa 5 (.s 2)), og 72 69 true (.ld none (.s 71)), og 73 69 true (.ixs 6 (.s 72) (.v (.int .i64 1))), og 74 69 true (.fa 1 (.s 73)), og 75 69 true (.ld none (.s 74)), og 76 69 true (.bin .add 3 (.s 70) (.s 75)), og 77 69 true (.ld none (.s 5))] [og 78 69 true (.bin .eql 3 (.s 76) (.s 77)), oo 79 (.pick (.s 69) (.s 78) (.v (.bool false))), oo 4 (.mv (.s 79))] := rsk
theorem d202 : CD Tryz.f202 fun r l a => (.seq (r 0) (.seq (r 1) (.seq (r 2) (.seq (.seq (r 3) (.block 0 (.seq (r 4) (.cond (.tmp 15) (.seq (r 5) .ret) (.seq (r 6) (.cond (.tmp 22) (.seq (r 7) .ret) (.seq (r 8) (.cond (.tmp 35) (.seq (r 9) .ret) (.seq (r 10) (.cond (.tmp 57) (.seq (r 11) .ret) (.seq (r 12) (.cond (.tmp 80) (.seq (r 13) .ret) (.seq (r 14) (.cond (.tmp 102) (.seq (r 15) .ret) .skip)))))))))))))) (.seq (r 16) .ret))))) := cek
theorem zx0 : RI Tryz.prog 202 Tryz.f202 109 [.tmp 4] := rik Tryz.func202
theorem t204 : type_of% (by have h := tf (zbi Tryz.f204 204 [0, 1]); conv at h => { lhs; cbv }; exact h) := by kernel_rfl
theorem n204 : type_of% (by have h := zaa t204; simp only [RDs, ba0, ba1] at h; exact h) := zaa t204
theorem d204 : CD Tryz.f204 fun r l a => (.seq (r 0) (.seq (r 1) .ret)) := cek
theorem yasm : RI Tryz.prog 204 Tryz.f204 8 [.tmp 4] := rik Tryz.func204
theorem t205 : type_of% (by have h := tf (zbi Tryz.f205 205 [0, 1]); conv at h => { lhs; cbv }; exact h) := by kernel_rfl
theorem n205 : type_of% (by have h := zaa t205; simp only [RDs, ba0, ba1] at h; exact h) := zaa t205
theorem d205 : CD Tryz.f205 fun r l a => (.seq (r 0) (.seq (r 1) .ret)) := cek
theorem yasn : RI Tryz.prog 205 Tryz.f205 9 [.tmp 4] := rik Tryz.func205
theorem t206 : type_of% (by have h := tf (zbi Tryz.f206 206 [0, 1]); conv at h => { lhs; cbv }; exact h) := by kernel_rfl
theorem n206 : type_of% (by have h := zaa t206; simp only [RDs, ba0, ba1] at h; exact h) := zaa t206
theorem d206 : CD Tryz.f206 fun r l a => (.seq (r 0) (.seq (r 1) .ret)) := cek
theorem yaso : RI Tryz.prog 206 Tryz.f206 8 [.tmp 3] := rik Tryz.func206
theorem t207 : type_of% (by have h := tf (zbi Tryz.f207 207 [0, 1, 2, 3]); conv at h => { lhs; cbv }; exact h) := by kernel_rfl
theorem n207 : type_of% (by have h := zaa t207; simp only [RDs, ba0, ba1] at h; exact h) := zaa t207
theorem d207 : CD Tryz.f207 fun r l a => (.seq (r 0) (.seq (.seq (r 1) (.cond (.tmp 7) (.seq (r 2) .ret) .skip)) (.seq (r 3) .ret))) := cek
theorem yasp : RI Tryz.prog 207 Tryz.f207 13 [.tmp 4] := rik Tryz.func207
theorem t208 : type_of% (by have h := tf (zbi Tryz.f208 208 [0, 1, 2, 3, 4, 5, 6, 7]); conv at h => { lhs; cbv }; exact h) := by kernel_rfl
theorem n208 : type_of% (by have h := zaa t208; simp only [RDs, ba0, ba1] at h; exact h) := zaa t208
theorem e208 : CX Tryz.f208 fun r l a => CE Tryz.prog (l 0) (.seq (r 2) (.seq (.cond (.tmp 9) .skip (.exit 0)) (.seq (.block 1 (.seq (r 3) (.seq (r 4) (.cond (.tmp 16) (.seq (r 5) .ret) .skip)))) (r 6)))) := cek
theorem d208 : CD Tryz.f208 fun r l a => (.seq (r 0) (.seq (.seq (r 1) (.block 0 (.loop (l 0)))) (.seq (r 7) .ret))) := cek
theorem yasq : RI Tryz.prog 208 Tryz.f208 19 [.tmp 4] := rik Tryz.func208
theorem t209 : type_of% (by have h := tf (zbi Tryz.f209 209 [0, 1]); conv at h => { lhs; cbv }; exact h) := by kernel_rfl
theorem n209 : type_of% (by have h := zaa t209; simp only [RDs, ba0, ba1] at h; exact h) := zaa t209
theorem d209 : CD Tryz.f209 fun r l a => (.seq (r 0) (.seq (r 1) .ret)) := cek
theorem yasr : RI Tryz.prog 209 Tryz.f209 18 [.tmp 4] := rik Tryz.func209
end Go.Proofs.YtcfcphhamfhfcaaGreatDoor.v
