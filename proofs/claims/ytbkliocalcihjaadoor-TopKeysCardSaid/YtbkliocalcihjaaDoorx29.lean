/- A part of the proof. -/
import Derived.Test.YtbkliocalcihjaaDoorx20
import Derived.Test.YtbkliocalcihjaaDoorx28
set_option linter.all false
namespace Go.Lf
open Go
set_option maxRecDepth 100000
set_option maxHeartbeats 9999999
abbrev vn := mkL 23
abbrev vQ := mkL 24
abbrev vc := mkL 25
abbrev wA := mkL 26
abbrev vJ := mkL 27
abbrev vE := mkL 28
abbrev w8 := mkL 47
abbrev wd := mkL 48
abbrev w9 := mkL 49
abbrev wN := mkL 50
abbrev vV := mkL 53
abbrev vN := mkL 54
abbrev yd : EQ := ⟨2, [(4, some (some 44))], (.seq (.ops [⟨some 2, .box 6 (.tmp 0), none, none⟩, ⟨some 4, .alloc [.int 0, .nils, .nils, .nils, .int 0, .nils, .nilmap, .int 0, .int 0, .int 0, .int 0, .int 0, .int 0, .int 0, .int 0, .int 0, .int 0, .int 0, .int 0, .int 0, .int 0, .int 0, .int 0, .int 0, .int 0, .int 0, .int 0, .int 0, .int 0, .int 0, .int 0, .int 0, .int 0, .int 0, .int 0, .int 0, .int 0, .int 0, .int 0, .int 0, .int 0, .int 0, .int 0, .bool false], none, none⟩] [1, 2, 4]) (.seq (.ops [⟨some 19, .load (some 6) (.tmp 2) false, none, none⟩, ⟨some 20, .mkmap 2, none, none⟩, ⟨some 21, .build [.int 0, .nils, .nils, .nils, .int 0, .nils, .nilmap, .int 0, .int 0, .int 0, .int 0, .int 0, .int 0, .int 0, .int 0, .int 0, .int 0, .int 0, .int 0, .int 0, .int 0, .int 0, .int 0, .int 0, .int 0, .int 0, .int 0, .int 0, .int 0, .int 0, .int 0, .int 0, .int 0, .int 0, .int 0, .int 0, .int 0, .int 0, .int 0, .int 0, .int 0, .int 0, .int 0, .bool false] [(0, 6, (.tmp 19)), (6, 1, (.tmp 20)), (43, 1, (.con (.bool true)))], none, none⟩, ⟨some 5, .alloc [.int 0, .nils, .nils, .nils, .int 0, .nils, .nilmap, .int 0, .int 0, .int 0, .int 0, .int 0, .int 0, .int 0, .int 0, .int 0, .int 0, .int 0, .int 0, .int 0, .int 0, .int 0, .int 0, .int 0, .int 0, .int 0, .int 0, .int 0, .int 0, .int 0, .int 0, .int 0, .int 0, .int 0, .int 0, .int 0, .int 0, .int 0, .int 0, .int 0, .int 0, .int 0, .int 0, .bool false], none, none⟩, ⟨none, .store 44 (.tmp 5) (.tmp 21), none, none⟩] [1, 2, 4, 5, 20]) (.seq (.ops [⟨some 22, .load (some 44) (.tmp 5) false, none, none⟩, ⟨some 23, .mkfn 74 [(.tmp 22)] [], none, none⟩, ⟨some 6, .alloc [.nilfn], none, none⟩, ⟨none, .store 1 (.tmp 6) (.tmp 23), none, none⟩] [1, 2, 4, 5, 6, 20]) (.seq (.seq (.ops [⟨some 24, .faddr 0 (.tmp 2), none, none⟩, ⟨some 25, .load none (.tmp 24) false, none, none⟩, ⟨some 26, .move (.con (.int 0)) false, none, none⟩] [1, 2, 4, 5, 6, 20, 25, 26]) (.block 0 (.loop (.seq (.ops [⟨some 27, .bin .lss (.tmp 26) (.tmp 25), none, none⟩] [1, 2, 4, 5, 6, 20, 25, 26, 27]) (.seq (.cond (.tmp 27) .skip (.exit 0)) (.seq (.block 1 (.seq (.ops [⟨some 28, .move (.tmp 26) false, none, none⟩, ⟨some 7, .move (.tmp 28) false, none, none⟩] [1, 2, 4, 5, 6, 7, 20, 25, 26]) (.ops [⟨some 29, .load none (.tmp 6) false, none, none⟩, ⟨some 30, .move (.tmp 7) false, none, none⟩, ⟨some 31, .call (.tmp 29) [(.con (.int 5)), (.tmp 30), (.con (.int 0)), (.con (.int 60))] (some [20]), none, none⟩] [1, 2, 4, 5, 6, 20, 25, 26]))) (.ops [⟨some 32, .bin .add (.tmp 26) (.con (.int 1)), none, none⟩, ⟨some 26, .move (.tmp 32) false, none, none⟩] [1, 2, 4, 5, 6, 20, 25, 26]))))))) (.seq (.seq (.ops [⟨some 33, .faddr 2 (.tmp 2), none, none⟩, ⟨some 34, .load none (.tmp 33) false, none, none⟩, ⟨some 35, .len (.tmp 34), none, none⟩, ⟨some 36, .move (.con (.int 0)) false, none, none⟩] [1, 4, 5, 6, 20, 34, 35, 36]) (.block 2 (.loop (.seq (.ops [⟨some 37, .bin .lss (.tmp 36) (.tmp 35), none, none⟩] [1, 4, 5, 6, 20, 34, 35, 36, 37]) (.seq (.cond (.tmp 37) .skip (.exit 2)) (.seq (.block 3 (.seq (.ops [⟨some 38, .iaddrS 3 (.tmp 34) (.tmp 36), none, none⟩, ⟨some 39, .load (some 3) (.tmp 38) false, none, none⟩, ⟨some 9, .alloc [.int 0, .int 0, .int 0], none, none⟩, ⟨none, .store 3 (.tmp 9) (.tmp 39), none, none⟩] [1, 4, 5, 6, 9, 20, 34, 35, 36]) (.ops [⟨some 40, .load none (.tmp 6) false, none, none⟩, ⟨some 41, .faddr 0 (.tmp 9), none, none⟩, ⟨some 42, .load none (.tmp 41) false, none, none⟩, ⟨some 43, .faddr 1 (.tmp 9), none, none⟩, ⟨some 44, .load none (.tmp 43) false, none, none⟩, ⟨some 45, .faddr 2 (.tmp 9), none, none⟩, ⟨some 46, .load none (.tmp 45) false, none, none⟩, ⟨some 47, .call (.tmp 40) [(.con (.int 5)), (.tmp 42), (.tmp 44), (.tmp 46)] (some [20]), none, none⟩] [1, 4, 5, 6, 20, 34, 35, 36]))) (.ops [⟨some 48, .bin .add (.tmp 36) (.con (.int 1)), none, none⟩, ⟨some 36, .move (.tmp 48) false, none, none⟩] [1, 4, 5, 6, 20, 34, 35, 36]))))))) (.seq (.seq (.ops [⟨some 49, .load (some 44) (.tmp 5) false, none, none⟩, ⟨some 50, .move (.tmp 1) false, none, none⟩, ⟨some 51, .call (.con (.fn 75 [] [])) [(.tmp 49), (.tmp 50)] (some [20]), none, none⟩] [4, 5, 6, 20, 51]) (.block 4 (.rng (.tmp 51) [52] (.ops [⟨some 10, .alloc [.int 0, .int 0, .int 0, .int 0], none, none⟩, ⟨none, .store 4 (.tmp 10) (.tmp 52), none, none⟩] [6, 10, 20]) (.block 5 (.ops [⟨some 53, .load none (.tmp 6) false, none, none⟩, ⟨some 54, .faddr 0 (.tmp 10), none, none⟩, ⟨some 55, .load none (.tmp 54) false, none, none⟩, ⟨some 56, .faddr 1 (.tmp 10), none, none⟩, ⟨some 57, .load none (.tmp 56) false, none, none⟩, ⟨some 58, .faddr 2 (.tmp 10), none, none⟩, ⟨some 59, .load none (.tmp 58) false, none, none⟩, ⟨some 60, .faddr 3 (.tmp 10), none, none⟩, ⟨some 61, .load none (.tmp 60) false, none, none⟩, ⟨some 62, .call (.tmp 53) [(.tmp 55), (.tmp 57), (.tmp 59), (.tmp 61)] (some [20]), none, none⟩] []))))) (.seq (.seq (.ops [⟨some 63, .move (.con (.int 0)) false, none, none⟩] [4, 5, 20, 63]) (.block 6 (.loop (.seq (.ops [⟨some 64, .bin .lss (.tmp 63) (.con (.int 6)), none, none⟩] [4, 5, 20, 63, 64]) (.seq (.cond (.tmp 64) .skip (.exit 6)) (.seq (.block 7 (.seq (.ops [⟨some 65, .move (.tmp 63) false, none, none⟩, ⟨some 11, .move (.tmp 65) false, none, none⟩] [4, 5, 11, 20, 63]) (.seq (.ops [⟨some 66, .move (.tmp 11) false, none, none⟩, ⟨some 67, .load (some 6) (.glob 2) false, none, none⟩, ⟨some 68, .faddr 7 (.tmp 5), none, none⟩, ⟨some 69, .iaddrA 6 6 (.tmp 68) (.tmp 66), none, none⟩, ⟨none, .store 6 (.tmp 69) (.tmp 67), none, none⟩] [4, 5, 11, 20, 63]) (.seq (.seq (.ops [⟨some 70, .move (.con (.int 0)) false, none, none⟩] [4, 5, 11, 20, 63, 70]) (.block 8 (.loop (.seq (.ops [⟨some 71, .bin .lss (.tmp 70) (.con (.int 6)), none, none⟩] [4, 5, 11, 20, 63, 70, 71]) (.seq (.cond (.tmp 71) .skip (.exit 8)) (.seq (.block 9 (.seq (.ops [⟨some 72, .move (.tmp 70) false, none, none⟩, ⟨some 12, .move (.tmp 72) false, none, none⟩] [4, 5, 11, 12, 20, 63, 70]) (.seq (.ops [⟨some 74, .faddr 6 (.tmp 5), none, none⟩, ⟨some 75, .load none (.tmp 74) false, none, none⟩, ⟨some 76, .move (.tmp 11) false, none, none⟩, ⟨some 77, .move (.tmp 12) false, none, none⟩, ⟨some 78, .build [.int 0, .int 0] [(0, 1, (.tmp 76)), (1, 1, (.tmp 77))], none, none⟩, ⟨some 79, .lookup 2 (.tmp 75) (.tmp 78) true (.int 0), none, none⟩, ⟨some 73, .move (.tmp 79) false, none, none⟩, ⟨some 80, .extract 0 (.tmp 73) false, none, none⟩, ⟨some 81, .extract 1 (.tmp 73) false, none, none⟩, ⟨some 13, .move (.tmp 80) false, none, none⟩, ⟨some 14, .move (.tmp 81) false, none, none⟩] [4, 5, 11, 12, 13, 14, 20, 63, 70]) (.seq (.ops [⟨some 82, .move (.tmp 14) false, none, none⟩] [4, 5, 11, 12, 13, 20, 63, 70, 82]) (.cond (.tmp 82) (.ops [⟨some 83, .move (.tmp 11) false, none, none⟩, ⟨some 84, .move (.tmp 12) false, none, none⟩, ⟨some 85, .move (.tmp 13) false, none, none⟩, ⟨some 86, .faddr 7 (.tmp 5), none, none⟩, ⟨some 87, .iaddrA 6 6 (.tmp 86) (.tmp 83), none, none⟩, ⟨some 88, .iaddrA 1 6 (.tmp 87) (.tmp 84), none, none⟩, ⟨none, .store 1 (.tmp 88) (.tmp 85), none, none⟩] [4, 5, 11, 20, 63, 70]) .skip))))) (.ops [⟨some 89, .bin .add (.tmp 70) (.con (.int 1)), none, none⟩, ⟨some 70, .move (.tmp 89) false, none, none⟩] [4, 5, 11, 20, 63, 70]))))))) (.seq (.ops [⟨some 90, .move (.tmp 11) false, none, none⟩, ⟨some 91, .faddr 7 (.tmp 5), none, none⟩, ⟨some 92, .iaddrA 6 6 (.tmp 91) (.tmp 90), none, none⟩, ⟨some 93, .load (some 6) (.tmp 92) false, none, some (some 5)⟩, ⟨some 94, .load (some 6) (.glob 2) false, none, some (none)⟩, ⟨some 95, .eqa true 6 (.tmp 93) (.tmp 94), none, none⟩] [4, 5, 11, 20, 63, 95]) (.cond (.tmp 95) (.ops [⟨some 96, .move (.tmp 11) false, none, none⟩, ⟨some 97, .move (.tmp 11) false, none, none⟩, ⟨some 98, .faddr 7 (.tmp 5), none, none⟩, ⟨some 99, .iaddrA 6 6 (.tmp 98) (.tmp 96), none, none⟩, ⟨some 100, .iaddrA 1 6 (.tmp 99) (.tmp 97), none, none⟩, ⟨none, .store 1 (.tmp 100) (.con (.int 0)), none, none⟩] [4, 5, 20, 63]) .skip)))))) (.ops [⟨some 101, .bin .add (.tmp 63) (.con (.int 1)), none, none⟩, ⟨some 63, .move (.tmp 101) false, none, none⟩] [4, 5, 20, 63]))))))) (.seq (.seq (.ops [⟨some 102, .move (.con (.int 0)) false, none, none⟩] [4, 5, 20, 102]) (.block 10 (.loop (.seq (.ops [⟨some 103, .bin .lss (.tmp 102) (.con (.int 6)), none, none⟩] [4, 5, 20, 102, 103]) (.seq (.cond (.tmp 103) .skip (.exit 10)) (.seq (.block 11 (.seq (.ops [⟨some 104, .move (.tmp 102) false, none, none⟩, ⟨some 15, .move (.tmp 104) false, none, none⟩] [4, 5, 15, 20, 102]) (.seq (.ops [⟨some 105, .move (.con (.int 0)) false, none, none⟩] [4, 5, 15, 20, 102, 105]) (.block 12 (.loop (.seq (.ops [⟨some 106, .bin .lss (.tmp 105) (.con (.int 6)), none, none⟩] [4, 5, 15, 20, 102, 105, 106]) (.seq (.cond (.tmp 106) .skip (.exit 12)) (.seq (.block 13 (.seq (.ops [⟨some 107, .move (.tmp 105) false, none, none⟩, ⟨some 16, .move (.tmp 107) false, none, none⟩] [4, 5, 15, 16, 20, 102, 105]) (.seq (.ops [⟨some 108, .move (.con (.int 0)) false, none, none⟩] [4, 5, 15, 16, 20, 102, 105, 108]) (.block 14 (.loop (.seq (.ops [⟨some 109, .bin .lss (.tmp 108) (.con (.int 6)), none, none⟩] [4, 5, 15, 16, 20, 102, 105, 108, 109]) (.seq (.cond (.tmp 109) .skip (.exit 14)) (.seq (.block 15 (.seq (.ops [⟨some 110, .move (.tmp 108) false, none, none⟩, ⟨some 17, .move (.tmp 110) false, none, none⟩] [4, 5, 15, 16, 17, 20, 102, 105, 108]) (.ops [⟨some 111, .move (.tmp 16) false, none, none⟩, ⟨some 112, .move (.tmp 17) false, none, none⟩, ⟨some 113, .move (.tmp 16) false, none, none⟩, ⟨some 114, .move (.tmp 17) false, none, none⟩, ⟨some 115, .faddr 7 (.tmp 5), none, none⟩, ⟨some 116, .iaddrA 6 6 (.tmp 115) (.tmp 113), none, none⟩, ⟨some 117, .iaddrA 1 6 (.tmp 116) (.tmp 114), none, none⟩, ⟨some 118, .load none (.tmp 117) false, none, some (some 5)⟩, ⟨some 119, .move (.tmp 16) false, none, none⟩, ⟨some 120, .move (.tmp 15) false, none, none⟩, ⟨some 121, .faddr 7 (.tmp 5), none, none⟩, ⟨some 122, .iaddrA 6 6 (.tmp 121) (.tmp 119), none, none⟩, ⟨some 123, .iaddrA 1 6 (.tmp 122) (.tmp 120), none, none⟩, ⟨some 124, .load none (.tmp 123) false, none, some (some 5)⟩, ⟨some 125, .move (.tmp 15) false, none, none⟩, ⟨some 126, .move (.tmp 17) false, none, none⟩, ⟨some 127, .faddr 7 (.tmp 5), none, none⟩, ⟨some 128, .iaddrA 6 6 (.tmp 127) (.tmp 125), none, none⟩, ⟨some 129, .iaddrA 1 6 (.tmp 128) (.tmp 126), none, none⟩, ⟨some 130, .load none (.tmp 129) false, none, some (some 5)⟩, ⟨some 131, .bin .add (.tmp 124) (.tmp 130), none, none⟩, ⟨some 132, .lit none [.int 0] 1 [(0, 1, (.tmp 131))], none, none⟩, ⟨some 133, .call (.con (.fn 60 [] [])) [(.tmp 118), (.tmp 132)] none, none, none⟩, ⟨some 134, .faddr 7 (.tmp 5), none, none⟩, ⟨some 135, .iaddrA 6 6 (.tmp 134) (.tmp 111), none, none⟩, ⟨some 136, .iaddrA 1 6 (.tmp 135) (.tmp 112), none, none⟩, ⟨none, .store 1 (.tmp 136) (.tmp 133), none, some (some 5)⟩] [4, 5, 15, 16, 20, 102, 105, 108]))) (.ops [⟨some 137, .bin .add (.tmp 108) (.con (.int 1)), none, none⟩, ⟨some 108, .move (.tmp 137) false, none, none⟩] [4, 5, 15, 16, 20, 102, 105, 108]))))))))) (.ops [⟨some 138, .bin .add (.tmp 105) (.con (.int 1)), none, none⟩, ⟨some 105, .move (.tmp 138) false, none, none⟩] [4, 5, 15, 20, 102, 105]))))))))) (.ops [⟨some 139, .bin .add (.tmp 102) (.con (.int 1)), none, none⟩, ⟨some 102, .move (.tmp 139) false, none, none⟩] [4, 5, 20, 102]))))))) (.seq (.seq (.ops [⟨some 140, .move (.con (.int 0)) false, none, none⟩] [4, 5, 20, 140]) (.block 16 (.loop (.seq (.ops [⟨some 141, .bin .lss (.tmp 140) (.con (.int 6)), none, none⟩] [4, 5, 20, 140, 141]) (.seq (.cond (.tmp 141) .skip (.exit 16)) (.seq (.block 17 (.seq (.ops [⟨some 142, .move (.tmp 140) false, none, none⟩, ⟨some 18, .move (.tmp 142) false, none, none⟩] [4, 5, 18, 20, 140]) (.ops [⟨some 143, .faddr 43 (.tmp 5), none, none⟩, ⟨some 144, .load none (.tmp 143) false, none, none⟩, ⟨some 145, .move (.tmp 144) false, none, none⟩, ⟨some 146, .move (.tmp 18) false, some (145, true), none⟩, ⟨some 147, .move (.tmp 18) false, some (145, true), none⟩, ⟨some 148, .faddr 7 (.tmp 5), some (145, true), none⟩, ⟨some 149, .iaddrA 6 6 (.tmp 148) (.tmp 146), some (145, true), none⟩, ⟨some 150, .iaddrA 1 6 (.tmp 149) (.tmp 147), some (145, true), none⟩, ⟨some 151, .load none (.tmp 150) false, some (145, true), none⟩, ⟨some 152, .bin .geq (.tmp 151) (.con (.int 0)), some (145, true), none⟩, ⟨some 153, .pick (.tmp 145) (.tmp 152) (.con (.bool false)), none, none⟩, ⟨some 154, .faddr 43 (.tmp 5), none, none⟩, ⟨none, .store 1 (.tmp 154) (.tmp 153), none, none⟩] [4, 5, 20, 140]))) (.ops [⟨some 155, .bin .add (.tmp 140) (.con (.int 1)), none, none⟩, ⟨some 140, .move (.tmp 155) false, none, none⟩] [4, 5, 20, 140]))))))) (.seq (.ops [⟨some 156, .load (some 44) (.tmp 5) false, none, none⟩, ⟨none, .store 44 (.tmp 4) (.tmp 156), none, none⟩] [4, 20]) .ret))))))))))⟩
abbrev vy : FL 58 := ⟨yd, by kernel_rfl⟩
abbrev wS := mkL 68
abbrev xu : EQ := ⟨2, [(4, some (some 13))], (.seq (.ops [⟨some 2, .box 11 (.tmp 0), none, none⟩, ⟨some 3, .box 1 (.tmp 1), none, none⟩, ⟨some 4, .alloc [.int 0, .int 0, .int 0, .int 0, .int 0, .int 0, .int 0, .int 0, .nils, .nils, .nils, .nilmap, .nils], none, none⟩] [2, 3, 4]) (.seq (.ops [⟨some 13, .load (some 11) (.tmp 2) false, none, none⟩, ⟨some 14, .mkmap 2, none, none⟩, ⟨some 15, .build [.int 0, .int 0, .int 0, .int 0, .int 0, .int 0, .int 0, .int 0, .nils, .nils, .nils, .nilmap, .nils] [(0, 11, (.tmp 13)), (11, 1, (.tmp 14))], none, none⟩, ⟨some 5, .alloc [.int 0, .int 0, .int 0, .int 0, .int 0, .int 0, .int 0, .int 0, .nils, .nils, .nils, .nilmap, .nils], none, none⟩, ⟨none, .store 13 (.tmp 5) (.tmp 15), none, none⟩] [2, 3, 4, 5, 14]) (.seq (.seq (.ops [⟨some 16, .faddr 9 (.tmp 2), none, none⟩, ⟨some 17, .load none (.tmp 16) false, none, none⟩, ⟨some 18, .len (.tmp 17), none, none⟩, ⟨some 19, .move (.con (.int 0)) false, none, none⟩] [2, 3, 4, 5, 14, 17, 18, 19]) (.block 0 (.loop (.seq (.ops [⟨some 20, .bin .lss (.tmp 19) (.tmp 18), none, none⟩] [2, 3, 4, 5, 14, 17, 18, 19, 20]) (.seq (.cond (.tmp 20) .skip (.exit 0)) (.seq (.block 1 (.seq (.ops [⟨some 21, .iaddrS 3 (.tmp 17) (.tmp 19), none, none⟩, ⟨some 22, .load (some 3) (.tmp 21) false, none, none⟩, ⟨some 7, .alloc [.int 0, .int 0, .int 0], none, none⟩, ⟨none, .store 3 (.tmp 7) (.tmp 22), none, none⟩] [2, 3, 4, 5, 7, 14, 17, 18, 19]) (.seq (.ops [⟨some 23, .faddr 1 (.tmp 7), none, none⟩, ⟨some 24, .load none (.tmp 23) false, none, none⟩, ⟨some 25, .faddr 0 (.tmp 7), none, none⟩, ⟨some 26, .load none (.tmp 25) false, none, none⟩, ⟨some 27, .build [.int 0, .int 0] [(0, 1, (.tmp 24)), (1, 1, (.tmp 26))], none, none⟩, ⟨some 8, .alloc [.int 0, .int 0], none, none⟩, ⟨none, .store 2 (.tmp 8) (.tmp 27), none, none⟩] [2, 3, 4, 5, 7, 8, 14, 17, 18, 19]) (.seq (.ops [⟨some 28, .load (some 2) (.tmp 8) false, none, none⟩, ⟨some 29, .load (some 2) (.glob 5) false, none, none⟩, ⟨some 30, .eqa true 2 (.tmp 28) (.tmp 29), none, none⟩] [2, 3, 4, 5, 7, 8, 14, 17, 18, 19, 30]) (.cond (.tmp 30) (.ops [⟨some 31, .bad, none, none⟩, ⟨some 32, .load none (.tmp 31) false, none, some (some 5)⟩, ⟨some 33, .load (some 2) (.tmp 8) false, none, some (some 8)⟩, ⟨some 34, .lookup 2 (.tmp 32) (.tmp 33) false (.int 0), none, none⟩, ⟨some 35, .faddr 2 (.tmp 7), none, none⟩, ⟨some 36, .load none (.tmp 35) false, none, some (some 7)⟩, ⟨some 37, .bin .add (.tmp 34) (.tmp 36), none, none⟩, ⟨some 38, .mentry 2 (.tmp 32) (.tmp 33) (.int 0), none, none⟩, ⟨some 39, .extract 1 (.tmp 38) true, none, none⟩, ⟨none, .mstore 2 (.tmp 32) (.tmp 39) (.tmp 37), none, none⟩] [2, 3, 4, 5, 14, 17, 18, 19]) .skip))))) (.ops [⟨some 40, .bin .add (.tmp 19) (.con (.int 1)), none, none⟩, ⟨some 19, .move (.tmp 40) false, none, none⟩] [2, 3, 4, 5, 14, 17, 18, 19]))))))) (.seq (.ops [⟨some 41, .load (some 13) (.tmp 5) false, none, none⟩, ⟨some 42, .mkfn 87 [(.tmp 41)] [], none, none⟩, ⟨some 9, .alloc [.nilfn], none, none⟩, ⟨none, .store 1 (.tmp 9) (.tmp 42), none, none⟩] [2, 3, 4, 5, 9, 14]) (.seq (.ops [⟨some 10, .alloc [.nilfn], none, none⟩] [2, 3, 4, 5, 9, 10, 14]) (.seq (.ops [⟨some 43, .mkfn 88 [] [(.tmp 2), (.tmp 5), (.tmp 9), (.tmp 3), (.tmp 10)], none, none⟩, ⟨none, .store 1 (.tmp 10) (.tmp 43), none, none⟩] [2, 3, 4, 5, 9, 10, 14]) (.seq (.seq (.ops [⟨some 44, .load (some 13) (.tmp 5) false, none, none⟩, ⟨some 45, .call (.con (.fn 90 [] [])) [(.tmp 44)] (some [14]), none, none⟩] [2, 3, 4, 5, 9, 10, 14, 45]) (.block 2 (.rng (.tmp 45) [46, 47] (.seq (.ops [⟨some 11, .alloc [.int 0, .int 0], none, none⟩, ⟨none, .store 2 (.tmp 11) (.tmp 46), none, none⟩] [2, 3, 5, 9, 10, 11, 14, 47]) (.ops [⟨some 12, .alloc [.int 0, .int 0], none, none⟩, ⟨none, .store 2 (.tmp 12) (.tmp 47), none, none⟩] [2, 3, 5, 9, 10, 11, 12, 14])) (.block 3 (.ops [⟨some 48, .load none (.tmp 10) false, none, none⟩, ⟨some 49, .load (some 2) (.tmp 12) false, none, none⟩, ⟨some 50, .build [.int 0, .int 0, .int 0, .int 0, .int 0, .int 0, .int 0, .int 0, .int 0, .int 0, .int 0, .int 0, .int 0, .int 0, .int 0, .int 0, .int 0] [(5, 2, (.tmp 49))], none, none⟩, ⟨some 51, .load (some 2) (.tmp 11) false, none, none⟩, ⟨some 52, .call (.tmp 48) [(.tmp 50), (.tmp 51), (.con (.int 0))] (some [2, 3, 5, 9, 10, 14]), none, none⟩] []))))) (.seq (.ops [⟨some 53, .load (some 13) (.tmp 5) false, none, none⟩, ⟨none, .store 13 (.tmp 4) (.tmp 53), none, none⟩] [4, 14]) .ret))))))))⟩
abbrev vU : FL 69 := ⟨xu, by kernel_rfl⟩
abbrev wV := mkL 70
abbrev wZ := mkL 71
abbrev yQ : EQ := ⟨5, [], (.seq (.ops [⟨some 5, .box 44 (.tmp 0), none, none⟩] [1, 2, 3, 4, 5]) (.seq (.ops [⟨some 14, .move (.tmp 1) false, none, none⟩, ⟨some 15, .move (.tmp 2) false, none, none⟩, ⟨some 16, .build [.int 0, .int 0] [(0, 1, (.tmp 14)), (1, 1, (.tmp 15))], none, none⟩, ⟨some 17, .move (.tmp 3) false, none, none⟩, ⟨some 18, .move (.tmp 4) false, none, none⟩, ⟨some 19, .bin .add (.tmp 17) (.tmp 18), none, none⟩, ⟨some 20, .build [.int 0, .int 0, .int 0] [(0, 2, (.tmp 16)), (2, 1, (.tmp 19))], none, none⟩, ⟨some 21, .move (.tmp 2) false, none, none⟩, ⟨some 22, .move (.tmp 1) false, none, none⟩, ⟨some 23, .build [.int 0, .int 0] [(0, 1, (.tmp 21)), (1, 1, (.tmp 22))], none, none⟩, ⟨some 24, .move (.tmp 4) false, none, none⟩, ⟨some 25, .move (.tmp 3) false, none, none⟩, ⟨some 26, .bin .sub (.tmp 24) (.tmp 25), none, none⟩, ⟨some 27, .build [.int 0, .int 0, .int 0] [(0, 2, (.tmp 23)), (2, 1, (.tmp 26))], none, none⟩, ⟨some 28, .build [.int 0, .int 0, .int 0, .int 0, .int 0, .int 0] [(0, 3, (.tmp 20)), (3, 3, (.tmp 27))], none, none⟩, ⟨some 29, .move (.con (.int 0)) false, none, none⟩] [5, 28, 29]) (.block 0 (.loop (.seq (.ops [⟨some 30, .bin .lss (.tmp 29) (.con (.int 2)), none, none⟩] [5, 28, 29, 30]) (.seq (.cond (.tmp 30) .skip (.exit 0)) (.seq (.block 1 (.seq (.ops [⟨some 31, .index (some 3) 3 2 (.tmp 28) (.tmp 29), none, none⟩, ⟨some 11, .alloc [.int 0, .int 0, .int 0], none, none⟩, ⟨none, .store 3 (.tmp 11) (.tmp 31), none, none⟩] [5, 11, 28, 29]) (.seq (.ops [⟨some 33, .faddr 6 (.tmp 5), none, none⟩, ⟨some 34, .load none (.tmp 33) false, none, none⟩, ⟨some 35, .faddr 0 (.tmp 11), none, none⟩, ⟨some 36, .load (some 2) (.tmp 35) false, none, none⟩, ⟨some 37, .lookup 2 (.tmp 34) (.tmp 36) true (.int 0), none, none⟩, ⟨some 32, .move (.tmp 37) false, none, none⟩, ⟨some 38, .extract 0 (.tmp 32) false, none, none⟩, ⟨some 39, .extract 1 (.tmp 32) false, none, none⟩, ⟨some 12, .move (.tmp 38) false, none, none⟩, ⟨some 13, .move (.tmp 39) false, none, none⟩] [5, 11, 12, 13, 28, 29]) (.seq (.ops [⟨some 40, .faddr 0 (.tmp 11), none, none⟩, ⟨some 41, .load (some 2) (.tmp 40) false, none, none⟩, ⟨some 42, .load (some 2) (.glob 6) false, none, none⟩, ⟨some 43, .eqa true 2 (.tmp 41) (.tmp 42), none, none⟩] [5, 11, 12, 13, 28, 29, 43]) (.cond (.tmp 43) (.seq (.ops [⟨some 44, .faddr 6 (.tmp 5), none, none⟩, ⟨some 45, .load none (.tmp 44) false, none, none⟩, ⟨some 46, .faddr 0 (.tmp 11), none, none⟩, ⟨some 47, .load (some 2) (.tmp 46) false, none, none⟩, ⟨some 48, .faddr 2 (.tmp 11), none, none⟩, ⟨some 49, .load none (.tmp 48) false, none, none⟩, ⟨none, .mapset 2 (.tmp 45) (.tmp 47) (.tmp 49), none, none⟩] [5, 11, 12, 13, 28, 29]) (.seq (.ops [⟨some 50, .move (.tmp 13) false, none, none⟩] [5, 11, 12, 28, 29, 50]) (.cond (.tmp 50) (.ops [⟨some 51, .faddr 6 (.tmp 5), none, none⟩, ⟨some 52, .load none (.tmp 51) false, none, some (some 5)⟩, ⟨some 53, .faddr 0 (.tmp 11), none, none⟩, ⟨some 54, .load (some 2) (.tmp 53) false, none, some (some 11)⟩, ⟨some 55, .move (.tmp 12) false, none, none⟩, ⟨some 56, .faddr 2 (.tmp 11), none, none⟩, ⟨some 57, .load none (.tmp 56) false, none, some (some 11)⟩, ⟨some 58, .lit none [.int 0] 1 [(0, 1, (.tmp 57))], none, none⟩, ⟨some 59, .call (.con (.fn 60 [] [])) [(.tmp 55), (.tmp 58)] none, none, none⟩, ⟨none, .mapset 2 (.tmp 52) (.tmp 54) (.tmp 59), none, none⟩] [5, 28, 29]) .skip))) .skip))))) (.ops [⟨some 60, .bin .add (.tmp 29) (.con (.int 1)), none, none⟩, ⟨some 29, .move (.tmp 60) false, none, none⟩] [5, 28, 29]))))))))⟩
abbrev wK : FL 74 := ⟨yQ, by kernel_rfl⟩
abbrev vr := mkL 75
abbrev vt := mkL 85
abbrev wt := mkL 86
abbrev vx := mkL 87
abbrev xF := mkL 88
abbrev yC : EQ := ⟨5, [(10, some (some 2))], (.seq (.ops [⟨some 5, .box 13 (.tmp 0), none, none⟩, ⟨some 6, .box 2 (.tmp 1), none, none⟩, ⟨some 7, .box 2 (.tmp 2), none, none⟩, ⟨some 10, .alloc [.int 0, .int 0], none, none⟩] [3, 4, 5, 6, 7, 10]) (.seq (.ops [⟨some 15, .faddr 0 (.tmp 5), none, none⟩, ⟨some 16, .faddr 8 (.tmp 15), none, none⟩, ⟨some 17, .load none (.tmp 16) false, none, none⟩, ⟨some 18, .move (.tmp 3) false, none, none⟩, ⟨some 19, .iaddrS 5 (.tmp 17) (.tmp 18), none, none⟩, ⟨some 20, .load (some 5) (.tmp 19) false, none, none⟩, ⟨some 11, .alloc [.int 0, .int 0, .int 0, .int 0, .int 0], none, none⟩, ⟨none, .store 5 (.tmp 11) (.tmp 20), none, none⟩] [3, 4, 5, 6, 7, 10, 11]) (.seq (.ops [⟨some 21, .faddr 0 (.tmp 11), none, none⟩, ⟨some 22, .load none (.tmp 21) false, none, none⟩, ⟨some 23, .move (.tmp 4) false, none, none⟩, ⟨some 24, .minmax false [(.tmp 22), (.tmp 23)], none, none⟩, ⟨some 12, .move (.tmp 24) false, none, none⟩] [3, 5, 6, 7, 10, 11, 12]) (.seq (.seq (.ops [⟨some 25, .load (some 2) (.tmp 6) false, none, some (some 6)⟩, ⟨some 26, .call (.con (.fn 94 [] [])) [] none, none, none⟩, ⟨some 27, .eqa false 2 (.tmp 25) (.tmp 26), none, none⟩, ⟨some 28, .move (.tmp 27) false, none, none⟩, ⟨some 29, .move (.tmp 12) false, some (28, true), none⟩, ⟨some 30, .bin .eql (.tmp 29) (.con (.int 0)), some (28, true), none⟩, ⟨some 31, .pick (.tmp 28) (.tmp 30) (.con (.bool false)), none, none⟩] [3, 5, 6, 7, 10, 11, 12, 31]) (.cond (.tmp 31) (.seq (.ops [⟨some 32, .faddr 11 (.tmp 5), none, none⟩, ⟨some 33, .load none (.tmp 32) false, none, some (some 5)⟩, ⟨some 34, .move (.tmp 3) false, none, none⟩, ⟨some 35, .build [.int 0, .int 0] [(0, 1, (.con (.int 0))), (1, 1, (.tmp 34))], none, none⟩, ⟨some 36, .lookup 2 (.tmp 33) (.tmp 35) false (.int 0), none, none⟩, ⟨some 37, .faddr 11 (.tmp 5), none, none⟩, ⟨some 38, .load none (.tmp 37) false, none, some (some 5)⟩, ⟨some 39, .move (.tmp 3) false, none, none⟩, ⟨some 40, .build [.int 0, .int 0] [(0, 1, (.con (.int 1))), (1, 1, (.tmp 39))], none, none⟩, ⟨some 41, .lookup 2 (.tmp 38) (.tmp 40) false (.int 0), none, none⟩, ⟨some 42, .build [.int 0, .int 0] [(0, 1, (.tmp 36)), (1, 1, (.tmp 41))], none, none⟩, ⟨none, .store 2 (.tmp 10) (.tmp 42), none, some (some 10)⟩] [10]) .ret) .skip)) (.seq (.seq (.ops [⟨some 43, .move (.con (.int 0)) false, none, none⟩] [3, 5, 6, 7, 10, 11, 12, 43]) (.block 0 (.loop (.seq (.ops [⟨some 44, .bin .lss (.tmp 43) (.con (.int 2)), none, none⟩] [3, 5, 6, 7, 10, 11, 12, 43, 44]) (.seq (.cond (.tmp 44) .skip (.exit 0)) (.seq (.block 1 (.seq (.ops [⟨some 45, .move (.tmp 43) false, none, none⟩, ⟨some 13, .move (.tmp 45) false, none, none⟩] [3, 5, 6, 7, 10, 11, 12, 13, 43]) (.seq (.ops [⟨some 46, .move (.tmp 12) false, none, none⟩, ⟨some 47, .move (.tmp 13) false, none, none⟩, ⟨some 48, .iaddrA 1 2 (.tmp 7) (.tmp 47), none, none⟩, ⟨some 49, .load none (.tmp 48) false, none, some (some 7)⟩, ⟨some 50, .bin .add (.tmp 46) (.tmp 49), none, none⟩, ⟨some 51, .bin .sub (.tmp 50) (.con (.int 1)), none, none⟩, ⟨some 52, .move (.tmp 13) false, none, none⟩, ⟨some 53, .iaddrA 1 2 (.tmp 7) (.tmp 52), none, none⟩, ⟨some 54, .load none (.tmp 53) false, none, some (some 7)⟩, ⟨some 55, .bin .quo (.tmp 51) (.tmp 54), none, none⟩, ⟨some 14, .move (.tmp 55) false, none, none⟩] [3, 5, 6, 7, 10, 11, 12, 13, 14, 43]) (.ops [⟨some 56, .move (.tmp 13) false, none, none⟩, ⟨some 57, .move (.tmp 13) false, none, none⟩, ⟨some 58, .iaddrA 1 2 (.tmp 6) (.tmp 57), none, none⟩, ⟨some 59, .load none (.tmp 58) false, none, some (some 6)⟩, ⟨some 60, .faddr 11 (.tmp 5), none, none⟩, ⟨some 61, .load none (.tmp 60) false, none, some (some 5)⟩, ⟨some 62, .move (.tmp 13) false, none, none⟩, ⟨some 63, .move (.tmp 3) false, none, none⟩, ⟨some 64, .build [.int 0, .int 0] [(0, 1, (.tmp 62)), (1, 1, (.tmp 63))], none, none⟩, ⟨some 65, .lookup 2 (.tmp 61) (.tmp 64) false (.int 0), none, none⟩, ⟨some 66, .move (.tmp 14) false, none, none⟩, ⟨some 67, .un .neg (.tmp 66), none, none⟩, ⟨some 68, .move (.tmp 13) false, none, none⟩, ⟨some 69, .faddr 3 (.tmp 11), none, none⟩, ⟨some 70, .iaddrA 1 2 (.tmp 69) (.tmp 68), none, none⟩, ⟨some 71, .load none (.tmp 70) false, none, some (some 11)⟩, ⟨some 72, .bin .mul (.tmp 67) (.tmp 71), none, none⟩, ⟨some 73, .lit none [.int 0] 3 [(0, 1, (.tmp 59)), (1, 1, (.tmp 65)), (2, 1, (.tmp 72))], none, none⟩, ⟨some 74, .call (.con (.fn 95 [] [])) [(.tmp 73)] none, none, none⟩, ⟨some 75, .iaddrA 1 2 (.tmp 6) (.tmp 56), none, none⟩, ⟨none, .store 1 (.tmp 75) (.tmp 74), none, some (some 6)⟩] [3, 5, 6, 7, 10, 11, 12, 43])))) (.ops [⟨some 76, .bin .add (.tmp 43) (.con (.int 1)), none, none⟩, ⟨some 43, .move (.tmp 76) false, none, none⟩] [3, 5, 6, 7, 10, 11, 12, 43]))))))) (.seq (.ops [⟨some 77, .load (some 2) (.tmp 6) false, none, none⟩, ⟨none, .store 2 (.tmp 10) (.tmp 77), none, none⟩] [10]) .ret))))))⟩
abbrev wO : FL 89 := ⟨yC, by kernel_rfl⟩
abbrev wu := mkL 90
abbrev wz := mkL 91
abbrev wy := mkL 94
abbrev vI := mkL 95
abbrev wG := mkL 96
abbrev wC := mkL 97
def kF : Nat → Option EQ
 | 4 => some KG.1
 | 8 => some Jf.1
 | 13 => some Ky.1
 | 14 => some MU.1
 | 19 => some JX.1
 | 20 => some JU.1
 | 21 => some I0.1
 | 22 => some LD.1
 | 23 => some vn.1
 | 24 => some vQ.1
 | 25 => some vc.1
 | 26 => some wA.1
 | 27 => some vJ.1
 | 28 => some vE.1
 | 30 => some JW.1
 | 34 => some KQ.1
 | 38 => some JY.1
 | 39 => some Fo.1
 | 44 => some KU.1
 | 45 => some Ja.1
 | 46 => some Jk.1
 | 47 => some w8.1
 | 48 => some wd.1
 | 49 => some w9.1
 | 50 => some wN.1
 | 51 => some JM.1
 | 52 => some Gq.1
 | 53 => some vV.1
 | 54 => some vN.1
 | 56 => some KF.1
 | 57 => some Jh.1
 | 58 => some vy.1
 | 60 => some KY.1
 | 62 => some F8.1
 | 63 => some KD.1
 | 64 => some ER.1
 | 65 => some Eo.1
 | 68 => some wS.1
 | 69 => some vU.1
 | 70 => some wV.1
 | 71 => some wZ.1
 | 72 => some Je.1
 | 73 => some Jb.1
 | 74 => some wK.1
 | 75 => some vr.1
 | 79 => some Et.1
 | 80 => some Ey.1
 | 81 => some CE.1
 | 82 => some Dy.1
 | 85 => some vt.1
 | 86 => some wt.1
 | 87 => some vx.1
 | 88 => some xF.1
 | 89 => some wO.1
 | 90 => some wu.1
 | 91 => some wz.1
 | 92 => some HG.1
 | 93 => some Ff.1
 | 94 => some wy.1
 | 95 => some vI.1
 | 96 => some wG.1
 | 97 => some wC.1
 | 98 => some HO.1
 | 99 => some Fe.1
 | 117 => some IE.1
 | 118 => some G4.1
 | _ => none
theorem zJ (n : Nat) (x : EQ) (h : kF n = some x) : zL.funcs n = some x := by
 unfold kF at h
 split at h
 ·cases h; exact KG.h
 ·cases h; exact Jf.h
 ·cases h; exact Ky.h
 ·cases h; exact MU.h
 ·cases h; exact JX.h
 ·cases h; exact JU.h
 ·cases h; exact I0.h
 ·cases h; exact LD.h
 ·cases h; exact vn.h
 ·cases h; exact vQ.h
 ·cases h; exact vc.h
 ·cases h; exact wA.h
 ·cases h; exact vJ.h
 ·cases h; exact vE.h
 ·cases h; exact JW.h
 ·cases h; exact KQ.h
 ·cases h; exact JY.h
 ·cases h; exact Fo.h
 ·cases h; exact KU.h
 ·cases h; exact Ja.h
 ·cases h; exact Jk.h
 ·cases h; exact w8.h
 ·cases h; exact wd.h
 ·cases h; exact w9.h
 ·cases h; exact wN.h
 ·cases h; exact JM.h
 ·cases h; exact Gq.h
 ·cases h; exact vV.h
 ·cases h; exact vN.h
 ·cases h; exact KF.h
 ·cases h; exact Jh.h
 ·cases h; exact vy.h
 ·cases h; exact KY.h
 ·cases h; exact F8.h
 ·cases h; exact KD.h
 ·cases h; exact ER.h
 ·cases h; exact Eo.h
 ·cases h; exact wS.h
 ·cases h; exact vU.h
 ·cases h; exact wV.h
 ·cases h; exact wZ.h
 ·cases h; exact Je.h
 ·cases h; exact Jb.h
 ·cases h; exact wK.h
 ·cases h; exact vr.h
 ·cases h; exact Et.h
 ·cases h; exact Ey.h
 ·cases h; exact CE.h
 ·cases h; exact Dy.h
 ·cases h; exact vt.h
 ·cases h; exact wt.h
 ·cases h; exact vx.h
 ·cases h; exact xF.h
 ·cases h; exact wO.h
 ·cases h; exact wu.h
 ·cases h; exact wz.h
 ·cases h; exact HG.h
 ·cases h; exact Ff.h
 ·cases h; exact wy.h
 ·cases h; exact vI.h
 ·cases h; exact wG.h
 ·cases h; exact wC.h
 ·cases h; exact HO.h
 ·cases h; exact Fe.h
 ·cases h; exact IE.h
 ·cases h; exact G4.h
 ·cases h
noncomputable def kT : rz zL := ⟨kF, nw, zJ, funext zG⟩
end Go.Lf
