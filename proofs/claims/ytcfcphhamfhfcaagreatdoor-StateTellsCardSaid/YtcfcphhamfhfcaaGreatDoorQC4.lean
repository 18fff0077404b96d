/- What the law's proof leans on, part 18. Conditions: in each statement. -/
import Derived.Test.YtcfcphhamfhfcaaGreatDoorQVN
set_option linter.all false
namespace Go.Proofs.YtcfcphhamfhfcaaGreatDoor.v
open Go Go.Ab
set_option maxRecDepth 100000
set_option maxHeartbeats 4000000
set_option linter.unusedSimpArgs false
set_option linter.unusedVariables false
theorem t93 : type_of% (by have h := tf (zbi Tryz.f93 93 [0, 1, 2, 3, 4, 5, 7, 8, 9]); conv at h => { lhs; cbv }; exact h) := by kernel_rfl
theorem n93 : type_of% (by have h := zaa t93; simp only [RDs, ba0, ba1] at h; exact h) := zaa t93
theorem ztw : RS Tryz.prog Tryz.f93 93 6 [0, 8, 9, 10, 32] none [oo 15 (.fa 1 (.s 4)), oo 16 (.ld none (.s 15)), oo 17 (.bin .eql 5 (.s 16) (.v (.int .u8 0))), oo 18 (.mv (.s 17)), og 19 18 false (.mv (.s 3)), og 20 18 false (.bin .gtr 3 (.s 19) (.v (.int .i64 0))), og 21 18 false (.mv (.s 20)), og 22 21 true (.mv (.s 0)), og 23 21 true (.mv (.s 3)), og 24 21 true (.bin .sub 3 (.s 23) (.v (.int .i64 1))), og 25 21 true (.ixs 2 (.s 22) (.s 24)), og 26 21 true (.fa 0 (.s 25)), og 27 21 true (.ld none (.s 26)), og 28 21 true (.fa 0 (.s 4)), og 29 21 true (.ld none (.s 28))] [og 30 21 true (.bin .geq 30 (.s 27) (.s 29)), og 31 18 false (.pick (.s 21) (.s 30) (.v (.bool false))), oo 32 (.pick (.s 18) (.v (.bool true)) (.s 31))] := rsk
theorem e93 : CX Tryz.f93 fun r l a => CE Tryz.prog (l 0) (.seq (r 4) (.seq (.cond (.tmp 11) .skip (.exit 0)) (.seq (.block 1 (.seq (r 5) (.seq (r 6) (.cond (.tmp 32) (.seq (r 7) .ret) .skip)))) (r 8)))) := cek
theorem d93 : CD Tryz.f93 fun r l a => (.seq (r 0) (.seq (.seq (r 1) (.cond (.tmp 7) (.seq (r 2) .ret) .skip)) (.seq (.seq (r 3) (.block 0 (.loop (l 0)))) (.seq (r 9) .ret)))) := cek
theorem yax6 : RI Tryz.prog 93 Tryz.f93 34 [.tmp 2] := rik Tryz.func93
theorem t94 : type_of% (by have h := tf (zbi Tryz.f94 94 [0, 1, 2, 3, 4, 7, 5, 8]); conv at h => { lhs; cbv }; exact h) := by kernel_rfl
theorem n94 : type_of% (by have h := zaa t94; simp only [RDs, ba0, ba1] at h; exact h) := zaa t94
theorem ztx : RS Tryz.prog Tryz.f94 94 6 [0, 3, 36] none [oo 13 (.mv (.s 0)), oo 14 (.mv (.s 3)), oo 15 (.ixs 2 (.s 13) (.s 14)), oo 16 (.fa 1 (.s 15)), oo 17 (.ld none (.s 16)), oo 18 (.bin .eql 5 (.s 17) (.v (.int .u8 0))), oo 19 (.mv (.s 18)), og 20 19 false (.mv (.s 3)), og 21 19 false (.bin .gtr 3 (.s 20) (.v (.int .i64 0))), og 22 19 false (.mv (.s 21)), og 23 22 true (.mv (.s 0)), og 24 22 true (.mv (.s 3)), og 25 22 true (.ixs 2 (.s 23) (.s 24)), og 26 22 true (.fa 0 (.s 25)), og 27 22 true (.ld none (.s 26)), og 28 22 true (.mv (.s 0)), og 29 22 true (.mv (.s 3)), og 30 22 true (.bin .sub 3 (.s 29) (.v (.int .i64 1))), og 31 22 true (.ixs 2 (.s 28) (.s 30)), og 32 22 true (.fa 0 (.s 31)), og 33 22 true (.ld none (.s 32))] [og 34 22 true (.bin .leq 30 (.s 27) (.s 33)), og 35 19 false (.pick (.s 22) (.s 34) (.v (.bool false))), oo 36 (.pick (.s 19) (.v (.bool true)) (.s 35))] := rsk
theorem e94 : CX Tryz.f94 fun r l a => CE Tryz.prog (l 0) (.seq (.seq (r 4) (.cond (.tmp 10) .skip (.exit 0))) (.seq (.block 1 (.seq (r 6) (.cond (.tmp 36) (.seq (r 7) .ret) .skip))) (r 5))) := cek
theorem d94 : CD Tryz.f94 fun r l a => (.seq (r 0) (.seq (.seq (r 1) (.cond (.tmp 6) (.seq (r 2) .ret) .skip)) (.seq (.seq (r 3) (.block 0 (.loop (l 0)))) (.seq (r 8) .ret)))) := cek
theorem yax7 : RI Tryz.prog 94 Tryz.f94 37 [.tmp 2] := rik Tryz.func94
theorem t95 : type_of% (by have h := tf (zbi Tryz.f95 95 [0, 1, 2, 3, 4, 5, 6, 7, 8, 9, 11, 12]); conv at h => { lhs; cbv }; exact h) := by kernel_rfl
theorem n95 : type_of% (by have h := zaa t95; simp only [RDs, ba0, ba1] at h; exact h) := zaa t95
theorem ya15 : type_of% (by have h := tf (tab Tryz.f95 95 [13]); conv at h => { lhs; cbv }; exact h) := by kernel_rfl
theorem yal5 : type_of% (by have h := zar ya15; simp only [RDs, ba0, ba1] at h; exact h) := zar ya15
theorem yaag : RS Tryz.prog Tryz.f95 95 10 [3, 6, 7, 8, 10, 31, 32, 33, 49] none [oo 38 (.fa 3 (.s 3)), oo 39 (.ld none (.s 38)), oo 40 (.mv (.s 10)), oo 41 (.mv (.s 11)), oo 42 (.ixs 1 (.s 40) (.s 41)), oo 43 (.ld none (.s 42)), oo 44 (.ixs 4 (.s 39) (.s 43)), oo 45 (.fa 1 (.s 44)), oo 46 (.ld none (.s 45)), oo 47 (.mv (.s 12))] [oo 48 (.call 57 [(.s 46), (.s 47)]), oo 49 (.un .not (.s 48))] := rsk
theorem e95 : CX Tryz.f95 fun r l a => CE Tryz.prog (l 0) (.seq (r 8) (.seq (.cond (.tmp 34) .skip (.exit 0)) (.seq (.block 1 (.seq (r 9) (.seq (r 10) (.cond (.tmp 49) (.seq (r 11) .ret) .skip)))) (r 12)))) := cek
theorem d95 : CD Tryz.f95 fun r l a => (.seq (r 0) (.seq (r 1) (.seq (.seq (r 2) (.cond (.tmp 22) (.seq (r 3) .ret) .skip)) (.seq (r 4) (.seq (.seq (r 5) (.cond (.tmp 30) (.seq (r 6) .ret) .skip)) (.seq (.seq (r 7) (.block 0 (.loop (l 0)))) (.seq (r 13) .ret))))))) := cek
theorem yaof : RI Tryz.prog 95 Tryz.f95 54 [.tmp 6, .tmp 7, .tmp 8, .tmp 9] := rik Tryz.func95
theorem t96 : type_of% (by have h := tf (zbi Tryz.f96 96 [0, 1, 2, 3, 4, 5, 6, 7, 8, 9, 10, 13, 11, 14]); conv at h => { lhs; cbv }; exact h) := by kernel_rfl
theorem n96 : type_of% (by have h := zaa t96; simp only [RDs, ba0, ba1] at h; exact h) := zaa t96
theorem yaah : RS Tryz.prog Tryz.f96 96 12 [1, 3, 8, 9, 49] none [oo 35 (.mv (.s 1)), oo 36 (.mv (.s 9)), oo 37 (.ixs 1 (.s 35) (.s 36)), oo 38 (.ld none (.s 37)), oo 39 (.fa 3 (.s 3)), oo 40 (.ld none (.s 39)), oo 41 (.mv (.s 8)), oo 42 (.mv (.s 9)), oo 43 (.ixs 1 (.s 41) (.s 42)), oo 44 (.ld none (.s 43)), oo 45 (.ixs 4 (.s 40) (.s 44)), oo 46 (.fa 1 (.s 45)), oo 47 (.ld none (.s 46))] [oo 48 (.call 105 [(.s 38), (.s 47)]), oo 49 (.un .not (.s 48))] := rsk
theorem e96 : CX Tryz.f96 fun r l a => CE Tryz.prog (l 0) (.seq (.seq (r 10) (.cond (.tmp 32) .skip (.exit 0))) (.seq (.block 1 (.seq (r 12) (.cond (.tmp 49) (.seq (r 13) .ret) .skip))) (r 11))) := cek
theorem d96 : CD Tryz.f96 fun r l a => (.seq (r 0) (.seq (r 1) (.seq (.seq (r 2) (.cond (.tmp 13) (.seq (r 3) .ret) .skip)) (.seq (.seq (r 4) (.cond (.tmp 21) (.seq (r 5) .ret) .skip)) (.seq (r 6) (.seq (.seq (r 7) (.cond (.tmp 28) (.seq (r 8) .ret) .skip)) (.seq (.seq (r 9) (.block 0 (.loop (l 0)))) (.seq (r 14) .ret)))))))) := cek
theorem yax8 : RI Tryz.prog 96 Tryz.f96 50 [.tmp 6] := rik Tryz.func96
theorem t97 : type_of% (by have h := tf (zbi Tryz.f97 97 [0, 1, 2, 3, 4, 5, 6, 7, 9, 8, 11]); conv at h => { lhs; cbv }; exact h) := by kernel_rfl
theorem n97 : type_of% (by have h := zaa t97; simp only [RDs, ba0, ba1] at h; exact h) := zaa t97
theorem yaai : RS Tryz.prog Tryz.f97 97 10 [4, 5, 6] none [oo 35 (.mv (.s 10)), oo 36 (.fa 3 (.s 7)), oo 37 (.ld none (.s 36)), oo 38 (.fa 1 (.s 7)), oo 39 (.ld none (.s 38)), oo 4 (.mv (.s 35)), oo 5 (.mv (.s 37))] [oo 6 (.mv (.s 39))] := rsk
theorem e97 : CX Tryz.f97 fun r l a => CE Tryz.prog (l 0) (.seq (.seq (r 7) (.cond (.tmp 26) .skip (.exit 0))) (.seq (.block 1 (.seq (r 9) (.cond (.tmp 34) (.seq (r 10) .ret) .skip))) (r 8))) := cek
theorem d97 : CD Tryz.f97 fun r l a => (.seq (r 0) (.seq (r 1) (.seq (r 2) (.seq (.seq (r 3) (.cond (.tmp 19) (r 4) .skip)) (.seq (r 5) (.seq (.seq (r 6) (.block 0 (.loop (l 0)))) (.seq (r 11) .ret))))))) := cek
theorem yax9 : RI Tryz.prog 97 Tryz.f97 40 [.tmp 4, .tmp 5, .tmp 6] := rik Tryz.func97
theorem t98 : type_of% (by have h := tf (zbi Tryz.f98 98 [0, 1, 2, 3, 5, 6, 7, 4, 8]); conv at h => { lhs; cbv }; exact h) := by kernel_rfl
theorem n98 : type_of% (by have h := zaa t98; simp only [RDs, ba0, ba1] at h; exact h) := zaa t98
theorem e98 : CX Tryz.f98 fun r l a => CE Tryz.prog (l 0) (.seq (.seq (r 3) (.cond (.tmp 12) .skip (.exit 0))) (.seq (.block 1 (.seq (.seq (r 5) (.cond (.tmp 20) (r 6) .skip)) (r 7))) (r 4))) := cek
theorem d98 : CD Tryz.f98 fun r l a => (.seq (r 0) (.seq (r 1) (.seq (.seq (r 2) (.block 0 (.loop (l 0)))) (.seq (r 8) .ret)))) := cek
theorem yaya : RI Tryz.prog 98 Tryz.f98 27 [.tmp 6] := rik Tryz.func98
theorem t99 : type_of% (by have h := tf (zbi Tryz.f99 99 [0, 1]); conv at h => { lhs; cbv }; exact h) := by kernel_rfl
theorem n99 : type_of% (by have h := zaa t99; simp only [RDs, ba0, ba1] at h; exact h) := zaa t99
theorem d99 : CD Tryz.f99 fun r l a => (.seq (r 0) (.seq (r 1) .ret)) := cek
theorem yayb : RI Tryz.prog 99 Tryz.f99 9 [.tmp 2] := rik Tryz.func99
theorem t100 : type_of% (by have h := tf (zbi Tryz.f100 100 [0, 1]); conv at h => { lhs; cbv }; exact h) := by kernel_rfl
theorem n100 : type_of% (by have h := zaa t100; simp only [RDs, ba0, ba1] at h; exact h) := zaa t100
theorem d100 : CD Tryz.f100 fun r l a => (.seq (r 0) (.seq (r 1) .ret)) := cek
theorem yara : RI Tryz.prog 100 Tryz.f100 17 [.tmp 2] := rik Tryz.func100
theorem t101 : type_of% (by have h := tf (zbi Tryz.f101 101 [0, 1, 2, 3, 4, 5, 6, 7, 8, 9, 10]); conv at h => { lhs; cbv }; exact h) := by kernel_rfl
theorem n101 : type_of% (by have h := zaa t101; simp only [RDs, ba0, ba1] at h; exact h) := zaa t101
theorem e101 : CX Tryz.f101 fun r l a => CE Tryz.prog (l 0) (.seq (r 3) (.seq (.cond (.tmp 17) .skip (.exit 0)) (.seq (.block 1 (.seq (r 4) (.seq (r 5) (.seq (r 6) (.seq (r 7) (.cond (.tmp 32) (r 8) .skip)))))) (r 9)))) := cek
theorem d101 : CD Tryz.f101 fun r l a => (.seq (r 0) (.seq (r 1) (.seq (.seq (r 2) (.block 0 (.loop (l 0)))) (.seq (r 10) .ret)))) := cek
theorem yarb : RI Tryz.prog 101 Tryz.f101 46 [.tmp 8] := rik Tryz.func101
theorem t102 : type_of% (by have h := tf (zbi Tryz.f102 102 [0, 1, 2, 3, 5, 4, 6]); conv at h => { lhs; cbv }; exact h) := by kernel_rfl
theorem n102 : type_of% (by have h := zaa t102; simp only [RDs, ba0, ba1] at h; exact h) := zaa t102
theorem e102 : CX Tryz.f102 fun r l a => CE Tryz.prog (l 0) (.seq (.seq (r 3) (.cond (.tmp 7) .skip (.exit 0))) (.seq (.block 1 (r 5)) (r 4))) := cek
theorem d102 : CD Tryz.f102 fun r l a => (.seq (r 0) (.seq (r 1) (.seq (.seq (r 2) (.block 0 (.loop (l 0)))) (.seq (r 6) .ret)))) := cek
theorem yarc : RI Tryz.prog 102 Tryz.f102 14 [.tmp 2] := rik Tryz.func102
theorem t103 : type_of% (by have h := tf (zbi Tryz.f103 103 [0, 1]); conv at h => { lhs; cbv }; exact h) := by kernel_rfl
theorem n103 : type_of% (by have h := zaa t103; simp only [RDs, ba0, ba1] at h; exact h) := zaa t103
theorem d103 : CD Tryz.f103 fun r l a => (.seq (r 0) (.seq (r 1) .ret)) := cek
theorem yard : RI Tryz.prog 103 Tryz.f103 9 [.tmp 2] := rik Tryz.func103
theorem t104 : type_of% (by have h := tf (zbi Tryz.f104 104 [0, 1]); conv at h => { lhs; cbv }; exact h) := by kernel_rfl
theorem n104 : type_of% (by have h := zaa t104; simp only [RDs, ba0, ba1] at h; exact h) := zaa t104
theorem d104 : CD Tryz.f104 fun r l a => (.seq (r 0) (.seq (r 1) .ret)) := cek
theorem yare : RI Tryz.prog 104 Tryz.f104 9 [.tmp 2] := rik Tryz.func104
theorem t105 : type_of% (by have h := tf (zbi Tryz.f105 105 [0, 1, 2, 4, 3, 5]); conv at h => { lhs; cbv }; exact h) := by kernel_rfl
theorem n105 : type_of% (by have h := zaa t105; simp only [RDs, ba0, ba1] at h; exact h) := zaa t105
theorem e105 : CX Tryz.f105 fun r l a => CE Tryz.prog (l 0) (.seq (.seq (r 2) (.cond (.tmp 8) .skip (.exit 0))) (.seq (.block 1 (r 4)) (r 3))) := cek
theorem d105 : CD Tryz.f105 fun r l a => (.seq (r 0) (.seq (.seq (r 1) (.block 0 (.loop (l 0)))) (.seq (r 5) .ret))) := cek
theorem yarf : RI Tryz.prog 105 Tryz.f105 15 [.tmp 4] := rik Tryz.func105
theorem t106 : type_of% (by have h := tf (zbi Tryz.f106 106 [0, 1, 2, 4, 3, 5]); conv at h => { lhs; cbv }; exact h) := by kernel_rfl
theorem n106 : type_of% (by have h := zaa t106; simp only [RDs, ba0, ba1] at h; exact h) := zaa t106
theorem e106 : CX Tryz.f106 fun r l a => CE Tryz.prog (l 0) (.seq (.seq (r 2) (.cond (.tmp 8) .skip (.exit 0))) (.seq (.block 1 (r 4)) (r 3))) := cek
theorem d106 : CD Tryz.f106 fun r l a => (.seq (r 0) (.seq (.seq (r 1) (.block 0 (.loop (l 0)))) (.seq (r 5) .ret))) := cek
theorem yarg : RI Tryz.prog 106 Tryz.f106 16 [.tmp 4] := rik Tryz.func106
theorem t109 : type_of% (by have h := tf (zbi Tryz.f109 109 [0, 1, 2, 3, 4, 5, 6, 7, 8]); conv at h => { lhs; cbv }; exact h) := by kernel_rfl
theorem n109 : type_of% (by have h := zaa t109; simp only [RDs, ba0, ba1] at h; exact h) := zaa t109
theorem e109 : CX Tryz.f109 fun r l a => CE Tryz.prog (l 0) (.seq (.seq (r 3) (.cond (.tmp 15) .skip (.exit 0))) (.block 1 (.seq (r 4) (.seq (r 5) (.cond (.tmp 27) (r 6) (r 7)))))) := cek
theorem d109 : CD Tryz.f109 fun r l a => (.seq (r 0) (.seq (r 1) (.seq (r 2) (.seq (.block 0 (.loop (l 0))) (.seq (r 8) .ret))))) := cek
theorem yarh : RI Tryz.prog 109 Tryz.f109 54 [.tmp 4, .tmp 5] := rik Tryz.func109
theorem t128 : type_of% (by have h := tf (zbi Tryz.f128 128 [0, 1, 2, 3, 4, 5, 7, 8, 9, 10, 6, 11]); conv at h => { lhs; cbv }; exact h) := by kernel_rfl
theorem n128 : type_of% (by have h := zaa t128; simp only [RDs, ba0, ba1] at h; exact h) := zaa t128
theorem e128 : CX Tryz.f128 fun r l a => CE Tryz.prog (l 0) (.seq (.seq (r 5) (.cond (.tmp 23) .skip (.exit 0))) (.seq (.block 1 (.seq (r 7) (.seq (.seq (r 8) (.cond (.tmp 41) (.seq (r 9) .ret) .skip)) (r 10)))) (r 6))) := cek
theorem d128 : CD Tryz.f128 fun r l a => (.seq (r 0) (.seq (.seq (r 1) (.cond (.tmp 13) (.seq (r 2) .ret) .skip)) (.seq (r 3) (.seq (.seq (r 4) (.block 0 (.loop (l 0)))) (.seq (r 11) .ret))))) := cek
theorem yae2 : RI Tryz.prog 128 Tryz.f128 47 [.tmp 6, .tmp 7] := rik Tryz.func128
theorem t129 : type_of% (by have h := tf (zbi Tryz.f129 129 [0, 1, 2, 4, 5, 3, 6]); conv at h => { lhs; cbv }; exact h) := by kernel_rfl
theorem n129 : type_of% (by have h := zaa t129; simp only [RDs, ba0, ba1] at h; exact h) := zaa t129
theorem e129 : CX Tryz.f129 fun r l a => CE Tryz.prog (l 0) (.seq (.seq (r 2) (.cond (.tmp 8) .skip (.exit 0))) (.seq (.block 1 (.seq (r 4) (.cond (.tmp 16) (.seq (r 5) .ret) .skip))) (r 3))) := cek
theorem d129 : CD Tryz.f129 fun r l a => (.seq (r 0) (.seq (.seq (r 1) (.block 0 (.loop (l 0)))) (.seq (r 6) .ret))) := cek
theorem yari : RI Tryz.prog 129 Tryz.f129 21 [.tmp 2] := rik Tryz.func129
theorem t130 : type_of% (by have h := tf (zbi Tryz.f130 130 [0, 1, 2, 3, 5, 4, 6]); conv at h => { lhs; cbv }; exact h) := by kernel_rfl
theorem n130 : type_of% (by have h := zaa t130; simp only [RDs, ba0, ba1] at h; exact h) := zaa t130
theorem e130 : CX Tryz.f130 fun r l a => CE Tryz.prog (l 0) (.seq (.seq (r 3) (.cond (.tmp 9) .skip (.exit 0))) (.seq (.block 1 (r 5)) (r 4))) := cek
theorem d130 : CD Tryz.f130 fun r l a => (.seq (r 0) (.seq (r 1) (.seq (.seq (r 2) (.block 0 (.loop (l 0)))) (.seq (r 6) .ret)))) := cek
theorem yarj : RI Tryz.prog 130 Tryz.f130 21 [.tmp 2] := rik Tryz.func130
theorem t131 : type_of% (by have h := tf (zbi Tryz.f131 131 [0, 1, 2, 3, 4, 5, 8, 6, 9, 10]); conv at h => { lhs; cbv }; exact h) := by kernel_rfl
theorem zrw : type_of% (by have h := zaa t131; simp only [RDs, ba0, ba1] at h; exact h) := zaa t131
theorem yaqb : type_of% (by have h := tf (tab Tryz.f131 131 [11, 12, 13, 14, 16, 17, 18]); conv at h => { lhs; cbv }; exact h) := by kernel_rfl
theorem zdh : type_of% (by have h := zar yaqb; simp only [RDs, ba0, ba1] at h; exact h) := zar yaqb
theorem yaqc : type_of% (by have h := tf (tab Tryz.f131 131 [19, 20, 21, 22, 24]); conv at h => { lhs; cbv }; exact h) := by kernel_rfl
theorem zdi : type_of% (by have h := zar yaqc; simp only [RDs, ba0, ba1] at h; exact h) := zar yaqc
theorem zdg : RS Tryz.prog Tryz.f131 131 7 [2, 3, 4, 7, 8, 45] none [oo 37 (.fa 3 (.s 4)), oo 38 (.ld none (.s 37)), oo 39 (.mv (.s 8)), oo 40 (.ixs 6 (.s 38) (.s 39)), oo 41 (.fa 0 (.s 40)), oo 42 (.ld none (.s 41)), oo 43 (.fa 0 (.s 7)), oo 44 (.ld none (.s 43))] [oo 45 (.bin .eql 9 (.s 42) (.s 44))] := rsk
theorem zck : RS Tryz.prog Tryz.f131 131 15 [6] (some [6]) [oo 68 (.mv (.s 9)), oo 69 (.bin .gtr 3 (.s 68) (.v (.int .i64 0))), oo 70 (.mv (.s 69)), og 71 70 true (.mv (.s 9)), og 72 70 true (.bin .gtr 3 (.s 71) (.v (.int .i64 6))), og 73 70 true (.mv (.s 72)), og 74 73 false (.fa 4 (.s 3)), og 75 73 false (.ld none (.s 74)), og 76 73 false (.fa 2 (.s 7)), og 77 73 false (.ld none (.s 76)), og 78 73 false (.ixs 2 (.s 75) (.s 77)), og 79 73 false (.fa 1 (.s 78)), og 80 73 false (.ld none (.s 79)), og 81 73 false (.lenl (.s 80)), og 82 73 false (.mv (.s 9)), og 83 73 false (.call 153 [(.s 82)])] [og 84 73 false (.bin .leq 3 (.s 81) (.s 83)), og 85 70 true (.pick (.s 73) (.v (.bool true)) (.s 84)), oo 86 (.pick (.s 70) (.s 85) (.v (.bool false))), oo 6 (.mv (.s 86))] := rsk
theorem zcl : RS Tryz.prog Tryz.f131 131 23 [6] (some [6]) [oo 124 (.fa 2 (.s 7)), oo 125 (.ld none (.s 124)), oo 126 (.bin .eql 3 (.s 125) (.v (.int .i64 0))), oo 127 (.mv (.s 126)), og 128 127 true (.fa 5 (.s 7)), og 129 127 true (.ld none (.s 128)), og 130 127 true (.bin .eql 3 (.s 129) (.v (.int .i64 (-1)))), oo 131 (.pick (.s 127) (.s 130) (.v (.bool false))), oo 132 (.mv (.s 131)), og 133 132 true (.fa 3 (.s 7)), og 134 132 true (.ld none (.s 133)), og 135 132 true (.call 78 [(.s 134), (.v (.int .i64 0)), (.v (.int .i64 3))]), oo 136 (.pick (.s 132) (.s 135) (.v (.bool false))), oo 137 (.mv (.s 136)), og 138 137 true (.ld (some 6) (.s 7)), og 139 137 true (.call 152 [(.s 138)]), og 140 137 true (.bin .gtr 3 (.s 139) (.v (.int .i64 0))), oo 141 (.pick (.s 137) (.s 140) (.v (.bool false))), oo 142 (.mv (.s 141)), og 143 142 true (.ld (some 6) (.s 7)), og 144 142 true (.call 152 [(.s 143)]), og 145 142 true (.fa 3 (.s 7)), og 146 142 true (.ld none (.s 145)), og 147 142 true (.bin .add 3 (.s 144) (.s 146)), og 148 142 true (.fa 2 (.s 3)), og 149 142 true (.ld none (.s 148))] [og 150 142 true (.bin .leq 3 (.s 147) (.s 149)), oo 151 (.pick (.s 142) (.s 150) (.v (.bool false))), oo 6 (.mv (.s 151))] := rsk
theorem zrl : CX Tryz.f131 fun r l a => CE Tryz.prog (l 0) (.seq (.seq (r 5) (.cond (.tmp 34) .skip (.exit 0))) (.seq (.block 1 (.seq (r 7) (.cond (.tmp 45) (.seq (r 8) .ret) .skip))) (r 6))) := cek
theorem zrk : CD Tryz.f131 fun r l a => (.seq (r 0) (.seq (r 1) (.seq (.seq (r 2) (.cond (.tmp 31) (.seq (r 3) .ret) .skip)) (.seq (.seq (r 4) (.block 0 (.loop (l 0)))) (.seq (.seq (r 9) (.block 2 (.seq (r 10) (.cond (.tmp 48) (.seq (.seq (r 11) (.cond (.tmp 62) (.seq (r 12) .ret) .skip)) (.seq (.seq (r 13) (.cond (.tmp 65) (.seq (r 14) (.seq (r 15) .ret)) .skip)) (.seq (.seq (r 16) (.cond (.tmp 98) (.seq (r 17) .ret) .skip)) (.seq (r 18) (.seq (r 19) .ret))))) (.seq (.seq (r 20) (.cond (.tmp 120) .skip (.seq (r 21) (.cond (.tmp 120) .skip (r 22))))) (.cond (.tmp 120) (.seq (r 23) .ret) .skip)))))) (.seq (r 24) .ret)))))) := cek
theorem yark : RI Tryz.prog 131 Tryz.f131 152 [.tmp 6] := rik Tryz.func131
theorem t132 : type_of% (by have h := tf (zbi Tryz.f132 132 [0, 1, 2, 4, 5, 6, 8, 9, 11, 12]); conv at h => { lhs; cbv }; exact h) := by kernel_rfl
theorem n132 : type_of% (by have h := zaa t132; simp only [RDs, ba0, ba1] at h; exact h) := zaa t132
theorem yaqd : type_of% (by have h := tf (tab Tryz.f132 132 [13, 10, 7, 14, 15, 3, 16]); conv at h => { lhs; cbv }; exact h) := by kernel_rfl
theorem zkt : type_of% (by have h := zar yaqd; simp only [RDs, ba0, ba1] at h; exact h) := zar yaqd
theorem e132 : CX Tryz.f132 fun r l a => CE Tryz.prog (l 2) (.seq (.seq (r 9) (.cond (.tmp 36) .skip (.exit 4))) (.seq (.block 5 (.seq (r 11) (.seq (r 12) (.cond (.tmp 57) (r 13) .skip)))) (r 10))) ∧
 CE Tryz.prog (l 1) (.seq (.seq (r 6) (.cond (.tmp 25) .skip (.exit 2))) (.seq (.block 3 (.seq (r 8) (.block 4 (.loop (l 2))))) (r 7))) ∧
 CE Tryz.prog (l 0) (.seq (.seq (r 2) (.cond (.tmp 14) .skip (.exit 0))) (.seq (.block 1 (.seq (r 4) (.seq (.seq (r 5) (.block 2 (.loop (l 1)))) (.seq (r 14) (.cond (.tmp 61) (.seq (r 15) .ret) .skip))))) (r 3))) := ⟨cek, cek, cek⟩
theorem d132 : CD Tryz.f132 fun r l a => (.seq (r 0) (.seq (.seq (r 1) (.block 0 (.loop (l 0)))) (.seq (r 16) .ret))) := cek
theorem yarl : RI Tryz.prog 132 Tryz.f132 62 [.tmp 4] := rik Tryz.func132
theorem t133 : type_of% (by have h := tf (zbi Tryz.f133 133 [0, 1, 2, 3, 4, 5, 8, 9]); conv at h => { lhs; cbv }; exact h) := by kernel_rfl
theorem n133 : type_of% (by have h := zaa t133; simp only [RDs, ba0, ba1] at h; exact h) := zaa t133
theorem yaqe : type_of% (by have h := tf (tab Tryz.f133 133 [10, 11]); conv at h => { lhs; cbv }; exact h) := by kernel_rfl
theorem zku : type_of% (by have h := zar yaqe; simp only [RDs, ba0, ba1] at h; exact h) := zar yaqe
theorem yaqf : type_of% (by have h := tf (tab Tryz.f133 133 [12, 13]); conv at h => { lhs; cbv }; exact h) := by kernel_rfl
theorem zkv : type_of% (by have h := zar yaqf; simp only [RDs, ba0, ba1] at h; exact h) := zar yaqf
theorem yaqg : type_of% (by have h := tf (tab Tryz.f133 133 [14, 15]); conv at h => { lhs; cbv }; exact h) := by kernel_rfl
theorem zkw : type_of% (by have h := zar yaqg; simp only [RDs, ba0, ba1] at h; exact h) := zar yaqg
theorem zkl : RS Tryz.prog Tryz.f133 133 6 [6] none [oo 33 (.fa 2 (.s 5)), oo 34 (.ld none (.s 33)), oo 35 (.fa 3 (.s 3)), oo 36 (.ld none (.s 35)), oo 37 (.lenl (.s 36)), oo 38 (.bin .sub 3 (.s 37) (.v (.int .i64 1))), oo 39 (.call 78 [(.s 34), (.v (.int .i64 0)), (.s 38)]), oo 40 (.mv (.s 39)), og 41 40 true (.fa 9 (.s 5)), og 42 40 true (.fa 1 (.s 41)), og 43 40 true (.ld none (.s 42)), og 44 40 true (.fa 3 (.s 3)), og 45 40 true (.ld none (.s 44)), og 46 40 true (.fa 2 (.s 5)), og 47 40 true (.ld none (.s 46)), og 48 40 true (.ixs 4 (.s 45) (.s 47)), og 49 40 true (.fa 1 (.s 48)), og 50 40 true (.ld none (.s 49))] [og 51 40 true (.bin .eql 3 (.s 43) (.s 50)), oo 52 (.pick (.s 40) (.s 51) (.v (.bool false))), oo 6 (.mv (.s 52))] := rsk
theorem zkm : RS Tryz.prog Tryz.f133 133 7 [6] (some [6]) [oo 53 (.fa 2 (.s 5)), oo 54 (.ld none (.s 53)), oo 55 (.bin .eql 3 (.s 54) (.v (.int .i64 0))), oo 56 (.mv (.s 55)), og 57 56 true (.fa 1 (.s 5)), og 58 56 true (.ld none (.s 57)), og 59 56 true (.fa 3 (.s 4)), og 60 56 true (.ld none (.s 59)), og 61 56 true (.lenl (.s 60)), og 62 56 true (.bin .sub 3 (.s 61) (.v (.int .i64 1))), og 63 56 true (.call 78 [(.s 58), (.v (.int .i64 0)), (.s 62)]), oo 64 (.pick (.s 56) (.s 63) (.v (.bool false))), oo 65 (.mv (.s 64)), og 66 65 true (.fa 3 (.s 4)), og 67 65 true (.ld none (.s 66)), og 68 65 true (.fa 1 (.s 5)), og 69 65 true (.ld none (.s 68)), og 70 65 true (.ixs 6 (.s 67) (.s 69)), og 71 65 true (.fa 1 (.s 70)), og 72 65 true (.ld none (.s 71)), og 73 65 true (.bin .eql 5 (.s 72) (.v (.int .u8 1))), oo 74 (.pick (.s 65) (.s 73) (.v (.bool false))), oo 75 (.mv (.s 74)), og 76 75 true (.fa 9 (.s 5)), og 77 75 true (.fa 1 (.s 76)), og 78 75 true (.ld none (.s 77)), og 79 75 true (.ld (some 7) (.s 3)), og 80 75 true (.fa 3 (.s 4)), og 81 75 true (.ld none (.s 80)), og 82 75 true (.fa 1 (.s 5)), og 83 75 true (.ld none (.s 82)), og 84 75 true (.ixs 6 (.s 81) (.s 83)), og 85 75 true (.ld (some 6) (.s 84)), og 86 75 true (.call 156 [(.s 79), (.s 85)])] [og 87 75 true (.bin .eql 3 (.s 78) (.s 86)), oo 88 (.pick (.s 75) (.s 87) (.v (.bool false))), oo 6 (.mv (.s 88))] := rsk
theorem d133 : CD Tryz.f133 fun r l a => (.seq (r 0) (.seq (.seq (r 1) (.block 0 (.seq (r 2) (.cond (.tmp 10) (.seq (.seq (r 3) (.cond (.tmp 29) (.seq (r 4) .ret) .skip)) (.seq (.seq (r 5) (.cond (.tmp 32) (.seq (r 6) .ret) .skip)) (.seq (r 7) .ret))) (.seq (r 8) (.cond (.tmp 89) (.seq (r 9) (.seq (r 10) .ret)) (.seq (r 11) (.cond (.tmp 145) (.seq (r 12) .ret) (.seq (r 13) (.cond (.tmp 193) (.seq (r 14) .ret) .skip)))))))))) (.seq (r 15) .ret))) := cek
theorem zta : RI Tryz.prog 133 Tryz.f133 220 [.tmp 6] := rik Tryz.func133
theorem t134 : type_of% (by have h := tf (zbi Tryz.f134 134 [0, 1]); conv at h => { lhs; cbv }; exact h) := by kernel_rfl
theorem n134 : type_of% (by have h := zaa t134; simp only [RDs, ba0, ba1] at h; exact h) := zaa t134
theorem d134 : CD Tryz.f134 fun r l a => (.seq (r 0) (.seq (r 1) .ret)) := cek
theorem yarm : RI Tryz.prog 134 Tryz.f134 11 [.tmp 4] := rik Tryz.func134
theorem t135 : type_of% (by have h := tf (zbi Tryz.f135 135 [0, 1]); conv at h => { lhs; cbv }; exact h) := by kernel_rfl
theorem n135 : type_of% (by have h := zaa t135; simp only [RDs, ba0, ba1] at h; exact h) := zaa t135
theorem d135 : CD Tryz.f135 fun r l a => (.seq (r 0) (.seq (r 1) .ret)) := cek
theorem yarn : RI Tryz.prog 135 Tryz.f135 9 [.tmp 4] := rik Tryz.func135
theorem t136 : type_of% (by have h := tf (zbi Tryz.f136 136 [0, 1]); conv at h => { lhs; cbv }; exact h) := by kernel_rfl
theorem n136 : type_of% (by have h := zaa t136; simp only [RDs, ba0, ba1] at h; exact h) := zaa t136
theorem d136 : CD Tryz.f136 fun r l a => (.seq (r 0) (.seq (r 1) .ret)) := cek
theorem yae3 : RI Tryz.prog 136 Tryz.f136 9 [.tmp 4] := rik Tryz.func136
theorem t137 : type_of% (by have h := tf (zbi Tryz.f137 137 [0, 1, 2, 3, 4, 6, 7, 9, 10, 11, 12, 14]); conv at h => { lhs; cbv }; exact h) := by kernel_rfl
theorem n137 : type_of% (by have h := zaa t137; simp only [RDs, ba0, ba1] at h; exact h) := zaa t137
theorem yaqh : type_of% (by have h := tf (tab Tryz.f137 137 [16, 17, 18, 19, 22, 23, 24, 25, 26, 27]); conv at h => { lhs; cbv }; exact h) := by kernel_rfl
theorem zge : type_of% (by have h := zar yaqh; simp only [RDs, ba0, ba1] at h; exact h) := zar yaqh
theorem yaqi : type_of% (by have h := tf (tab Tryz.f137 137 [28, 13, 30]); conv at h => { lhs; cbv }; exact h) := by kernel_rfl
theorem zgf : type_of% (by have h := zar yaqi; simp only [RDs, ba0, ba1] at h; exact h) := zar yaqi
theorem zf8 : RL Tryz.prog Tryz.f137 137 5 [0, 2, 4, 6, 7, 9, 20, 21, 22] none [] [(oo 26 (.mv (.s 0)), [], []), (oo 27 (.fa 1 (.s 9)), [], []), (oo 28 (.ld none (.s 27)), [], []), (oo 29 (.mv (.s 0)), [], []), (oo 30 (.nz (.s 29)), [], []), (oo 31 (.fa 0 (.s 30)), [], []), (oo 32 (.fa 1 (.s 31)), [], []), (oo 33 (.ld none (.s 32)), [], []), (oo 34 (.bin .mul 3 (.v (.int .i64 8)) (.s 33)), [], []), (oo 35 (.call 87 [(.s 28), (.v (.int .i64 1)), (.s 34)]), [], []), (oo 36 (.fa 0 (.s 9)), [], [9]), (oo 37 (.ld none (.s 36)), [], [9]), (oo 38 (.bin .geq 3 (.s 37) (.v (.int .i64 0))), [], [9]), (oo 39 (.fa 0 (.s 9)), [], [9]), (oo 40 (.ld none (.s 39)), [], [9]), (oo 41 (.mv (.s 0)), [], [9]), (oo 42 (.nz (.s 41)), [], [9]), (oo 43 (.fa 0 (.s 42)), [], [9]), (oo 44 (.fa 1 (.s 43)), [], [9]), (oo 45 (.ld none (.s 44)), [], [9]), (oo 46 (.bin .mul 3 (.v (.int .i64 8)) (.s 45)), [], [9]), (oo 47 (.fa 1 (.s 9)), [], [9]), (oo 48 (.ld none (.s 47)), [], [9]), (oo 49 (.bin .sub 3 (.s 46) (.s 48)), [], [9]), (oo 50 (.bin .leq 3 (.s 40) (.s 49)), [], [9]), (oo 51 (.bsl 4 1 [(.bool false), (.bool false), (.bool false)] 3 [(0, (.s 35)), (1, (.s 38)), (2, (.s 50))]), [], [])] [oo 52 (.call 85 [(.s 26), (.s 51)])] := rlk
theorem zf9 : RS Tryz.prog Tryz.f137 137 8 [0, 2, 4, 6, 7, 10, 20, 21, 22] none [oo 58 (.fa 1 (.s 9)), oo 59 (.ld none (.s 58)), oo 60 (.call 58 [(.s 59)]), oo 61 (.fa 0 (.s 9)), oo 62 (.ld none (.s 61))] [oo 63 (.bin .shl 30 (.s 60) (.s 62)), oo 10 (.mv (.s 63))] := rsk
theorem zdy : RL Tryz.prog Tryz.f137 137 15 [0, 2, 4, 6, 7] none [] [(oo 82 (.mv (.s 0)), [], []), (oo 83 (.fa 2 (.s 7)), [], []), (oo 84 (.ld none (.s 83)), [], []), (oo 85 (.mv (.s 0)), [], []), (oo 86 (.nz (.s 85)), [], []), (oo 87 (.fa 0 (.s 86)), [], []), (oo 88 (.fa 4 (.s 87)), [], []), (oo 89 (.ld none (.s 88)), [], []), (oo 90 (.lenl (.s 89)), [], []), (oo 91 (.bin .sub 3 (.s 90) (.v (.int .i64 1))), [], []), (oo 92 (.call 87 [(.s 84), (.v (.int .i64 0)), (.s 91)]), [], []), (oo 93 (.fa 3 (.s 7)), [], [10]), (oo 94 (.ld none (.s 93)), [], [10]), (oo 95 (.bin .eql 3 (.s 94) (.v (.int .i64 0))), [], [10]), (oo 96 (.bsl 4 1 [(.bool false), (.bool false)] 2 [(0, (.s 92)), (1, (.s 95))]), [], [])] [oo 97 (.call 85 [(.s 82), (.s 96)])] := rlk
theorem zdz : RL Tryz.prog Tryz.f137 137 20 [6] none [] [(oo 108 (.mv (.s 0)), [], []), (oo 109 (.mv (.s 11)), [], []), (oo 110 (.bin .gtr 3 (.s 109) (.v (.int .i64 0))), [], []), (oo 111 (.mv (.s 11)), [], []), (oo 112 (.bin .gtr 3 (.s 111) (.v (.int .i64 6))), [], []), (oo 113 (.mv (.s 112)), [], []), (og 114 113 false (.mv (.s 0)), [], []), (og 115 113 false (.nz (.s 114)), [], []), (og 116 113 false (.fa 0 (.s 115)), [], []), (og 117 113 false (.fa 4 (.s 116)), [], []), (og 118 113 false (.ld none (.s 117)), [], []), (og 119 113 false (.fa 2 (.s 7)), [], []), (og 120 113 false (.ld none (.s 119)), [], []), (og 121 113 false (.ixs 2 (.s 118) (.s 120)), [], []), (og 122 113 false (.fa 1 (.s 121)), [], []), (og 123 113 false (.ld none (.s 122)), [], []), (og 124 113 false (.lenl (.s 123)), [], []), (og 125 113 false (.mv (.s 11)), [], []), (og 126 113 false (.bin .shl 3 (.v (.int .i64 1)) (.s 125)), [], []), (og 127 113 false (.bin .leq 3 (.s 124) (.s 126)), [], []), (oo 128 (.pick (.s 113) (.v (.bool true)) (.s 127)), [], []), (oo 129 (.bsl 4 1 [(.bool false), (.bool false)] 2 [(0, (.s 110)), (1, (.s 128))]), [], [])] [oo 130 (.call 85 [(.s 108), (.s 129)])] := rlk
theorem zd0 : RL Tryz.prog Tryz.f137 137 21 [0, 4, 6, 7] none [] [(oo 131 (.mv (.s 0)), [], []), (oo 132 (.fa 5 (.s 7)), [], []), (oo 133 (.ld none (.s 132)), [], []), (oo 134 (.mv (.s 2)), [], []), (oo 135 (.bin .sub 3 (.s 134) (.v (.int .i64 1))), [], []), (oo 136 (.call 87 [(.s 133), (.v (.int .i64 0)), (.s 135)]), [], []), (oo 137 (.fa 4 (.s 7)), [], [5]), (oo 138 (.ld none (.s 137)), [], [5]), (oo 139 (.lenl (.s 138)), [], [5]), (oo 140 (.bin .eql 3 (.s 139) (.v (.int .i64 0))), [], [5]), (oo 141 (.bsl 4 1 [(.bool false), (.bool false)] 2 [(0, (.s 136)), (1, (.s 140))]), [], [])] [oo 142 (.call 85 [(.s 131), (.s 141)])] := rlk
theorem zd1 : RL Tryz.prog Tryz.f137 137 29 [6] none [] [(oo 173 (.mv (.s 0)), [], []), (oo 174 (.fa 2 (.s 7)), [], []), (oo 175 (.ld none (.s 174)), [], []), (oo 176 (.bin .eql 3 (.s 175) (.v (.int .i64 0))), [], []), (oo 177 (.fa 5 (.s 7)), [], []), (oo 178 (.ld none (.s 177)), [], []), (oo 179 (.bin .eql 3 (.s 178) (.v (.int .i64 (-1)))), [], []), (oo 180 (.fa 3 (.s 7)), [], []), (oo 181 (.ld none (.s 180)), [], []), (oo 182 (.call 87 [(.s 181), (.v (.int .i64 0)), (.v (.int .i64 3))]), [], []), (oo 183 (.mv (.s 13)), [], [9]), (oo 184 (.bin .gtr 3 (.s 183) (.v (.int .i64 0))), [], [9]), (oo 185 (.mv (.s 13)), [], [9]), (oo 186 (.fa 3 (.s 7)), [], [9]), (oo 187 (.ld none (.s 186)), [], [9]), (oo 188 (.bin .add 3 (.s 185) (.s 187)), [], [9]), (oo 189 (.mv (.s 0)), [], [9]), (oo 190 (.nz (.s 189)), [], [9]), (oo 191 (.fa 0 (.s 190)), [], [9]), (oo 192 (.fa 2 (.s 191)), [], [9]), (oo 193 (.ld none (.s 192)), [], [9]), (oo 194 (.bin .leq 3 (.s 188) (.s 193)), [], [9]), (oo 195 (.bsl 4 1 [(.bool false), (.bool false), (.bool false), (.bool false), (.bool false)] 5 [(0, (.s 176)), (1, (.s 179)), (2, (.s 182)), (3, (.s 184)), (4, (.s 194))]), [], [])] [oo 196 (.call 85 [(.s 173), (.s 195)])] := rlk
theorem zz8 : CX Tryz.f137 fun r l a => CE Tryz.prog (l 0) (.seq (r 3) (.seq (.cond (.tmp 23) .skip (.exit 0)) (.seq (.block 1 (.seq (r 4) (.seq (r 5) (.seq (.seq (r 6) (.cond (.tmp 57) (.seq (r 7) .ret) .skip)) (.seq (r 8) (.seq (r 9) (r 10))))))) (r 11)))) := cek
theorem zz5 : CD Tryz.f137 fun r l a => (.seq (r 0) (.seq (r 1) (.seq (.seq (r 2) (.block 0 (.loop (l 0)))) (.seq (.seq (r 12) (.block 2 (.seq (r 14) (.cond (.tmp 80) (.seq (r 15) (.seq (.seq (r 16) (.cond (.tmp 102) (.seq (r 17) .ret) .skip)) (.seq (.seq (r 18) (.cond (.tmp 105) (.seq (r 19) (.seq (r 20) (.exit 2))) .skip)) (.seq (r 21) (.seq (r 22) (.cond (.tmp 146) (.seq (r 23) (r 24)) .skip)))))) (.seq (.seq (r 25) (.cond (.tmp 167) .skip (.seq (r 26) (.cond (.tmp 167) .skip (r 27))))) (.cond (.tmp 167) (.seq (r 28) (r 29)) (r 13))))))) (.seq (r 30) .ret))))) := cek
theorem yaro : RI Tryz.prog 137 Tryz.f137 198 [.tmp 6] := rik Tryz.func137
theorem t138 : type_of% (by have h := tf (zbi Tryz.f138 138 [0, 1, 2, 3, 4, 5, 6, 7, 8, 9, 11, 12]); conv at h => { lhs; cbv }; exact h) := by kernel_rfl
theorem n138 : type_of% (by have h := zaa t138; simp only [RDs, ba0, ba1] at h; exact h) := zaa t138
theorem zp3 : RS Tryz.prog Tryz.f138 138 10 [0, 5, 35, 36, 37] none [oo 41 (.mv (.s 5)), oo 42 (.fa 0 (.s 9)), oo 43 (.ld none (.s 42)), oo 44 (.mv (.s 0)), oo 45 (.nz (.s 44)), oo 46 (.fa 0 (.s 45)), oo 47 (.ld (some 7) (.s 46)), oo 48 (.ld (some 6) (.s 9)), oo 49 (.call 161 [(.s 47), (.s 48)])] [on (.mu .str (.s 41) (.s 43) (.s 49))] := rsk
theorem e138 : CX Tryz.f138 fun r l a => CE Tryz.prog (l 0) (.seq (r 3) (.seq (.cond (.tmp 24) .skip (.exit 0)) (.seq (.block 1 (.seq (r 4) (r 5))) (r 6)))) ∧
 CE Tryz.prog (l 1) (.seq (r 8) (.seq (.cond (.tmp 38) .skip (.exit 2)) (.seq (.block 3 (.seq (r 9) (r 10))) (r 11)))) := ⟨cek, cek⟩
theorem d138 : CD Tryz.f138 fun r l a => (.seq (r 0) (.seq (r 1) (.seq (.seq (r 2) (.block 0 (.loop (l 0)))) (.seq (.seq (r 7) (.block 2 (.loop (l 1)))) (.seq (r 12) .ret))))) := cek
theorem yarp : RI Tryz.prog 138 Tryz.f138 52 [.tmp 4] := rik Tryz.func138
theorem t139 : type_of% (by have h := tf (zbi Tryz.f139 139 [0, 1, 2, 3, 4, 6, 7, 11]); conv at h => { lhs; cbv }; exact h) := by kernel_rfl
theorem n139 : type_of% (by have h := zaa t139; simp only [RDs, ba0, ba1] at h; exact h) := zaa t139
theorem yaqj : type_of% (by have h := tf (tab Tryz.f139 139 [12, 8, 14, 15, 17, 19, 20, 21, 22]); conv at h => { lhs; cbv }; exact h) := by kernel_rfl
theorem zkx : type_of% (by have h := zar yaqj; simp only [RDs, ba0, ba1] at h; exact h) := zar yaqj
theorem yaqk : type_of% (by have h := tf (tab Tryz.f139 139 [23, 5]); conv at h => { lhs; cbv }; exact h) := by kernel_rfl
theorem zky : type_of% (by have h := zar yaqk; simp only [RDs, ba0, ba1] at h; exact h) := zar yaqk
theorem zkn : RS Tryz.prog Tryz.f139 139 9 [0, 5, 6, 46] (some [0, 5, 6, 46]) [oo 47 (.fa 1 (.s 6)), oo 48 (.ld none (.s 47)), oo 49 (.bin .eql 3 (.s 48) (.v (.int .i64 (-1)))), oo 50 (.mv (.s 49)), og 51 50 true (.fa 2 (.s 6)), og 52 50 true (.ld none (.s 51)), og 53 50 true (.mv (.s 0)), og 54 50 true (.nz (.s 53)), og 55 50 true (.fa 0 (.s 54)), og 56 50 true (.fa 3 (.s 55)), og 57 50 true (.ld none (.s 56)), og 58 50 true (.lenl (.s 57)), og 59 50 true (.bin .sub 3 (.s 58) (.v (.int .i64 1)))] [og 60 50 true (.call 87 [(.s 52), (.v (.int .i64 0)), (.s 59)]), oo 61 (.pick (.s 50) (.s 60) (.v (.bool false))), oo 46 (.mv (.s 61))] := rsk
theorem zgo : RL Tryz.prog Tryz.f139 139 10 [] none [] [(oo 62 (.mv (.s 0)), [], []), (oo 63 (.fa 9 (.s 6)), [], []), (oo 64 (.fa 1 (.s 63)), [], []), (oo 65 (.ld none (.s 64)), [], []), (oo 66 (.mv (.s 0)), [], []), (oo 67 (.nz (.s 66)), [], []), (oo 68 (.fa 0 (.s 67)), [], []), (oo 69 (.fa 3 (.s 68)), [], []), (oo 70 (.ld none (.s 69)), [], []), (oo 71 (.fa 2 (.s 6)), [], []), (oo 72 (.ld none (.s 71)), [], []), (oo 73 (.ixs 4 (.s 70) (.s 72)), [], []), (oo 74 (.fa 1 (.s 73)), [], []), (oo 75 (.ld none (.s 74)), [], []), (oo 76 (.bin .eql 3 (.s 65) (.s 75)), [], []), (oo 77 (.bsl 4 1 [(.bool false)] 1 [(0, (.s 76))]), [], [])] [oo 78 (.call 85 [(.s 62), (.s 77)])] := rlk
theorem zgp : RL Tryz.prog Tryz.f139 139 13 [] none [] [(oo 98 (.mv (.s 0)), [], []), (oo 99 (.fa 1 (.s 8)), [], []), (oo 100 (.ld none (.s 99)), [], []), (oo 101 (.bin .eql 5 (.s 100) (.v (.int .u8 1))), [], []), (oo 102 (.fa 9 (.s 6)), [], []), (oo 103 (.fa 1 (.s 102)), [], []), (oo 104 (.ld none (.s 103)), [], []), (oo 105 (.mv (.s 0)), [], []), (oo 106 (.nz (.s 105)), [], []), (oo 107 (.fa 0 (.s 106)), [], []), (oo 108 (.ld (some 7) (.s 107)), [], []), (oo 109 (.ld (some 6) (.s 8)), [], []), (oo 110 (.call 161 [(.s 108), (.s 109)]), [], []), (oo 111 (.bin .eql 3 (.s 104) (.s 110)), [], []), (oo 112 (.bsl 4 1 [(.bool false), (.bool false)] 2 [(0, (.s 101)), (1, (.s 111))]), [], [])] [oo 113 (.call 85 [(.s 98), (.s 112)])] := rlk
theorem zgq : RL Tryz.prog Tryz.f139 139 16 [] none [] [(oo 122 (.mv (.s 0)), [], []), (oo 123 (.fa 15 (.s 6)), [], []), (oo 124 (.ld (some 6) (.s 123)), [], []), (oo 125 (.bsl 120 6 [(.int .u8 0), (.int .i64 0), (.int .u64 0), (.str ByteArray.empty), (.int .i64 0), (.rsl none 0 0 [])] 1 [(0, (.s 124))]), [], []), (oo 126 (.call 163 [(.s 125)]), [], []), (oo 127 (.fa 3 (.s 6)), [], [3, 4]), (oo 128 (.fa 1 (.s 127)), [], [3, 4]), (oo 129 (.ld none (.s 128)), [], [3, 4]), (oo 130 (.mv (.s 0)), [], [3, 4]), (oo 131 (.nz (.s 130)), [], [3, 4]), (oo 132 (.fa 0 (.s 131)), [], [3, 4]), (oo 133 (.fa 2 (.s 132)), [], [3, 4]), (oo 134 (.ld none (.s 133)), [], [3, 4]), (oo 135 (.bin .eql 3 (.s 129) (.s 134)), [], [3, 4]), (oo 136 (.bsl 3 1 [(.int .i64 0), (.int .i64 0), (.int .i64 0), (.int .i64 0)] 4 [(0, (.v (.int .i64 8))), (1, (.v (.int .i64 16))), (2, (.v (.int .i64 32))), (3, (.v (.int .i64 64)))]), [], [3, 4]), (oo 137 (.fa 9 (.s 6)), [], [3, 4, 14]), (oo 138 (.fa 1 (.s 137)), [], [3, 4, 14]), (oo 139 (.ld none (.s 138)), [], [3, 4, 14]), (oo 140 (.call 135 [(.s 136), (.s 139)]), [], []), (oo 141 (.bsl 4 1 [(.bool false), (.bool false), (.bool false)] 3 [(0, (.s 126)), (1, (.s 135)), (2, (.s 140))]), [], [])] [oo 142 (.call 85 [(.s 122), (.s 141)])] := rlk
theorem zgr : RL Tryz.prog Tryz.f139 139 18 [0, 3, 6] none [] [(oo 145 (.mv (.s 0)), [], []), (oo 146 (.fa 3 (.s 6)), [], []), (oo 147 (.ld (some 6) (.s 146)), [], []), (oo 148 (.bsl 120 6 [(.int .u8 0), (.int .i64 0), (.int .u64 0), (.str ByteArray.empty), (.int .i64 0), (.rsl none 0 0 [])] 1 [(0, (.s 147))]), [], []), (oo 149 (.call 163 [(.s 148)]), [], []), (oo 150 (.fa 9 (.s 6)), [], [3, 4]), (oo 151 (.fa 1 (.s 150)), [], [3, 4]), (oo 152 (.ld none (.s 151)), [], [3, 4]), (oo 153 (.mv (.s 0)), [], [3, 4]), (oo 154 (.nz (.s 153)), [], [3, 4]), (oo 155 (.fa 0 (.s 154)), [], [3, 4]), (oo 156 (.fa 2 (.s 155)), [], [3, 4]), (oo 157 (.ld none (.s 156)), [], [3, 4]), (oo 158 (.bin .eql 3 (.s 152) (.s 157)), [], [3, 4]), (oo 159 (.bsl 4 1 [(.bool false), (.bool false)] 2 [(0, (.s 149)), (1, (.s 158))]), [], [])] [oo 160 (.call 85 [(.s 145), (.s 159)])] := rlk
theorem d139 : CD Tryz.f139 fun r l a => (.seq (r 0) (.seq (.seq (r 1) (.cond (.tmp 11) (r 2) .skip)) (.seq (r 3) (.seq (r 4) (.block 0 (.seq (r 6) (.cond (.tmp 32) (.seq (r 7) (.block 1 (.seq (r 9) (.cond (.tmp 46) (r 10) (.seq (r 11) (.cond (.tmp 79) (.seq (r 12) (r 13)) (r 8))))))) (.seq (r 14) (.cond (.tmp 114) (.seq (r 15) (r 16)) (.seq (r 17) (.cond (.tmp 143) (.seq (r 18) (.seq (r 19) (.cond (.tmp 165) (.seq (r 20) (r 21)) .skip))) (.seq (r 22) (.cond (.tmp 179) (r 23) (r 5)))))))))))))) := cek
theorem zpk : RI Tryz.prog 139 Tryz.f139 190 [] := rik Tryz.func139
theorem t140 : type_of% (by have h := tf (zbi Tryz.f140 140 [0, 1, 2, 3, 4, 5, 6, 7, 8]); conv at h => { lhs; cbv }; exact h) := by kernel_rfl
theorem n140 : type_of% (by have h := zaa t140; simp only [RDs, ba0, ba1] at h; exact h) := zaa t140
theorem e140 : CX Tryz.f140 fun r l a => CE Tryz.prog (l 0) (.seq (.seq (r 3) (.cond (.tmp 17) .skip (.exit 0))) (.block 1 (.seq (r 4) (.seq (r 5) (.cond (.tmp 31) (r 6) (r 7)))))) := cek
theorem d140 : CD Tryz.f140 fun r l a => (.seq (r 0) (.seq (r 1) (.seq (r 2) (.seq (.block 0 (.loop (l 0))) (.seq (r 8) .ret))))) := cek
theorem yarq : RI Tryz.prog 140 Tryz.f140 49 [.tmp 6, .tmp 7] := rik Tryz.func140
theorem t141 : type_of% (by have h := tf (zbi Tryz.f141 141 [0, 1, 2, 3, 4, 5]); conv at h => { lhs; cbv }; exact h) := by kernel_rfl
theorem n141 : type_of% (by have h := zaa t141; simp only [RDs, ba0, ba1] at h; exact h) := zaa t141
theorem d141 : CD Tryz.f141 fun r l a => (.seq (r 0) (.seq (.block 0 (.seq (r 1) (.cond (.tmp 5) (.seq (r 2) .ret) (.seq (r 3) (.cond (.tmp 10) (.seq (r 4) .ret) .skip))))) (.seq (r 5) .ret))) := cek
theorem yarr : RI Tryz.prog 141 Tryz.f141 15 [.tmp 4] := rik Tryz.func141
theorem t145 : type_of% (by have h := tf (zbi Tryz.f145 145 [0, 1]); conv at h => { lhs; cbv }; exact h) := by kernel_rfl
theorem n145 : type_of% (by have h := zaa t145; simp only [RDs, ba0, ba1] at h; exact h) := zaa t145
theorem d145 : CD Tryz.f145 fun r l a => (.seq (r 0) (.seq (r 1) .ret)) := cek
theorem yars : RI Tryz.prog 145 Tryz.f145 17 [.tmp 4] := rik Tryz.func145
theorem t146 : type_of% (by have h := tf (zbi Tryz.f146 146 [0, 1]); conv at h => { lhs; cbv }; exact h) := by kernel_rfl
theorem n146 : type_of% (by have h := zaa t146; simp only [RDs, ba0, ba1] at h; exact h) := zaa t146
theorem d146 : CD Tryz.f146 fun r l a => (.seq (r 0) (.seq (r 1) .ret)) := cek
theorem yart : RI Tryz.prog 146 Tryz.f146 6 [.tmp 2] := rik Tryz.func146
theorem t151 : type_of% (by have h := tf (zbi Tryz.f151 151 [0, 1, 2, 4, 5, 6, 3, 7]); conv at h => { lhs; cbv }; exact h) := by kernel_rfl
theorem n151 : type_of% (by have h := zaa t151; simp only [RDs, ba0, ba1] at h; exact h) := zaa t151
theorem e151 : CX Tryz.f151 fun r l a => CE Tryz.prog (l 0) (.seq (.seq (r 2) (.cond (.tmp 11) .skip (.exit 0))) (.seq (.block 1 (.seq (r 4) (.seq (r 5) (.cond (.tmp 35) (.seq (r 6) .ret) .skip)))) (r 3))) := cek
theorem d151 : CD Tryz.f151 fun r l a => (.seq (r 0) (.seq (.seq (r 1) (.block 0 (.loop (l 0)))) (.seq (r 7) .ret))) := cek
theorem yaru : RI Tryz.prog 151 Tryz.f151 36 [.tmp 4] := rik Tryz.func151
end Go.Proofs.YtcfcphhamfhfcaaGreatDoor.v
