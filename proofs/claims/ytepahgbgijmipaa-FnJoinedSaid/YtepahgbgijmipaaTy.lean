import Derived.Test.YtepahgbgijmipaaProg
import Derived.Test.YtepahgbgijmipaaEv28
import Derived.KernelRfl
namespace Go.Proofs.Ytepahgbgijmipaa
open Go Go.Proofs.YtepahgbgijmipaaEv
@[go_sem] theorem ty_sz_3 : tsz Try.prog 3 = some (1, false) := by kernel_rfl
@[go_sem] theorem ty_un_3 : Try.prog.underlying 3 = some (.int .i64) := by kernel_rfl
@[go_sem] theorem ty_el_3 : telem Try.prog 3 = none := by kernel_rfl
@[go_sem] theorem ty_ze_3 : tzero Try.prog 3 = some [(.int .i64 0)] := by kernel_rfl
@[go_sem] theorem ty_sz_4 : tsz Try.prog 4 = some (1, false) := by kernel_rfl
@[go_sem] theorem ty_un_4 : Try.prog.underlying 4 = some .bool := by kernel_rfl
@[go_sem] theorem ty_el_4 : telem Try.prog 4 = none := by kernel_rfl
@[go_sem] theorem ty_ze_4 : tzero Try.prog 4 = some [.bool false] := by kernel_rfl
@[go_sem] theorem ty_sz_5 : tsz Try.prog 5 = some (1, false) := by kernel_rfl
@[go_sem] theorem ty_un_5 : Try.prog.underlying 5 = some (.int .u8) := by kernel_rfl
@[go_sem] theorem ty_el_5 : telem Try.prog 5 = none := by kernel_rfl
@[go_sem] theorem ty_ze_5 : tzero Try.prog 5 = some [(.int .u8 0)] := by kernel_rfl
@[go_sem] theorem ty_sz_9 : tsz Try.prog 9 = some (1, false) := by kernel_rfl
@[go_sem] theorem ty_un_9 : Try.prog.underlying 9 = some .string := by kernel_rfl
@[go_sem] theorem ty_el_9 : telem Try.prog 9 = none := by kernel_rfl
@[go_sem] theorem ty_ze_9 : tzero Try.prog 9 = some [.string ByteArray.empty] := by kernel_rfl
@[go_sem] theorem ty_sz_22 : tsz Try.prog 22 = some (1, false) := by kernel_rfl
@[go_sem] theorem ty_el_22 : telem Try.prog 22 = some (5, 1, 1) := by kernel_rfl
@[go_sem] theorem ty_ze_22 : tzero Try.prog 22 = some [.slice none 0 0] := by kernel_rfl
@[go_sem] theorem ty_sz_25 : tsz Try.prog 25 = some (3, true) := by kernel_rfl
@[go_sem] theorem ty_el_25 : telem Try.prog 25 = none := by kernel_rfl
@[go_sem] theorem ty_fd_25_0 : tfield Try.prog 25 0 = some (0, 1, false) := by kernel_rfl
@[go_sem] theorem ty_fd_25_1 : tfield Try.prog 25 1 = some (1, 1, false) := by kernel_rfl
@[go_sem] theorem ty_fd_25_2 : tfield Try.prog 25 2 = some (2, 1, false) := by kernel_rfl
@[go_sem] theorem ty_pl_25 : tplaces Try.prog 25 = some [(0, 1), (1, 1), (2, 1)] := by kernel_rfl
@[go_sem] theorem ty_fl_25 : tflat Try.prog 25 = some [(0, .int .i64), (1, .int .i64), (2, .int .i64)] := by kernel_rfl
@[go_sem] theorem ty_ze_25 : tzero Try.prog 25 = some [(.int .i64 0), (.int .i64 0), (.int .i64 0)] := by kernel_rfl
@[go_sem] theorem ty_sz_27 : tsz Try.prog 27 = some (7, true) := by kernel_rfl
@[go_sem] theorem ty_el_27 : telem Try.prog 27 = none := by kernel_rfl
@[go_sem] theorem ty_fd_27_0 : tfield Try.prog 27 0 = some (0, 1, false) := by kernel_rfl
@[go_sem] theorem ty_fd_27_1 : tfield Try.prog 27 1 = some (1, 1, false) := by kernel_rfl
@[go_sem] theorem ty_fd_27_2 : tfield Try.prog 27 2 = some (2, 1, false) := by kernel_rfl
@[go_sem] theorem ty_fd_27_3 : tfield Try.prog 27 3 = some (3, 1, false) := by kernel_rfl
@[go_sem] theorem ty_fd_27_4 : tfield Try.prog 27 4 = some (4, 1, false) := by kernel_rfl
@[go_sem] theorem ty_fd_27_5 : tfield Try.prog 27 5 = some (5, 1, false) := by kernel_rfl
@[go_sem] theorem ty_fd_27_6 : tfield Try.prog 27 6 = some (6, 1, false) := by kernel_rfl
@[go_sem] theorem ty_pl_27 : tplaces Try.prog 27 = some [(0, 1), (1, 1), (2, 1), (3, 1), (4, 1), (5, 1), (6, 1)] := by kernel_rfl
@[go_sem] theorem ty_fl_27 : tflat Try.prog 27 = some [(0, .int .i64), (1, .int .i64), (2, .int .i64), (3, .int .i64), (4, .int .i64), (5, .int .i64), (6, .int .i64)] := by kernel_rfl
@[go_sem] theorem ty_ze_27 : tzero Try.prog 27 = some [(.int .i64 0), (.int .i64 0), (.int .i64 0), (.int .i64 0), (.int .i64 0), (.int .i64 0), (.int .i64 0)] := by kernel_rfl
@[go_sem] theorem ty_sz_28 : tsz Try.prog 28 = some (1, false) := by kernel_rfl
@[go_sem] theorem ty_el_28 : telem Try.prog 28 = some (85, 5, 64) := by kernel_rfl
@[go_sem] theorem ty_ze_28 : tzero Try.prog 28 = some [.slice none 0 0] := by kernel_rfl
@[go_sem] theorem ty_sz_29 : tsz Try.prog 29 = some (1, false) := by kernel_rfl
@[go_sem] theorem ty_el_29 : telem Try.prog 29 = some (3, 1, 8) := by kernel_rfl
@[go_sem] theorem ty_ze_29 : tzero Try.prog 29 = some [.slice none 0 0] := by kernel_rfl
@[go_sem] theorem ty_sz_30 : tsz Try.prog 30 = some (1, false) := by kernel_rfl
@[go_sem] theorem ty_el_30 : telem Try.prog 30 = some (39, 4, 32) := by kernel_rfl
@[go_sem] theorem ty_ze_30 : tzero Try.prog 30 = some [.slice none 0 0] := by kernel_rfl
@[go_sem] theorem ty_sz_31 : tsz Try.prog 31 = some (1, false) := by kernel_rfl
@[go_sem] theorem ty_el_31 : telem Try.prog 31 = some (61, 3, 24) := by kernel_rfl
@[go_sem] theorem ty_ze_31 : tzero Try.prog 31 = some [.slice none 0 0] := by kernel_rfl
@[go_sem] theorem ty_sz_33 : tsz Try.prog 33 = some (19, true) := by kernel_rfl
@[go_sem] theorem ty_el_33 : telem Try.prog 33 = none := by kernel_rfl
@[go_sem] theorem ty_fd_33_0 : tfield Try.prog 33 0 = some (0, 1, false) := by kernel_rfl
@[go_sem] theorem ty_fd_33_1 : tfield Try.prog 33 1 = some (1, 3, true) := by kernel_rfl
@[go_sem] theorem ty_fd_33_2 : tfield Try.prog 33 2 = some (4, 1, false) := by kernel_rfl
@[go_sem] theorem ty_fd_33_3 : tfield Try.prog 33 3 = some (5, 7, true) := by kernel_rfl
@[go_sem] theorem ty_fd_33_4 : tfield Try.prog 33 4 = some (12, 1, false) := by kernel_rfl
@[go_sem] theorem ty_fd_33_5 : tfield Try.prog 33 5 = some (13, 1, false) := by kernel_rfl
@[go_sem] theorem ty_fd_33_6 : tfield Try.prog 33 6 = some (14, 1, false) := by kernel_rfl
@[go_sem] theorem ty_fd_33_7 : tfield Try.prog 33 7 = some (15, 1, false) := by kernel_rfl
@[go_sem] theorem ty_fd_33_8 : tfield Try.prog 33 8 = some (16, 1, false) := by kernel_rfl
@[go_sem] theorem ty_fd_33_9 : tfield Try.prog 33 9 = some (17, 1, false) := by kernel_rfl
@[go_sem] theorem ty_fd_33_10 : tfield Try.prog 33 10 = some (18, 1, false) := by kernel_rfl
@[go_sem] theorem ty_pl_33 : tplaces Try.prog 33 = some [(0, 1), (1, 3), (4, 1), (5, 7), (12, 1), (13, 1), (14, 1), (15, 1), (16, 1), (17, 1), (18, 1)] := by kernel_rfl
@[go_sem] theorem ty_ze_33 : tzero Try.prog 33 = some [(.int .i64 0), (.int .i64 0), (.int .i64 0), (.int .i64 0), (.int .i64 0), (.int .i64 0), (.int .i64 0), (.int .i64 0), (.int .i64 0), (.int .i64 0), (.int .i64 0), (.int .i64 0), (.int .i64 0), (.int .i64 0), (.int .i64 0), .slice none 0 0, .slice none 0 0, .slice none 0 0, .slice none 0 0] := by kernel_rfl
@[go_sem] theorem ty_sz_39 : tsz Try.prog 39 = some (4, true) := by kernel_rfl
@[go_sem] theorem ty_el_39 : telem Try.prog 39 = none := by kernel_rfl
@[go_sem] theorem ty_fd_39_0 : tfield Try.prog 39 0 = some (0, 1, false) := by kernel_rfl
@[go_sem] theorem ty_fd_39_1 : tfield Try.prog 39 1 = some (1, 1, false) := by kernel_rfl
@[go_sem] theorem ty_fd_39_2 : tfield Try.prog 39 2 = some (2, 1, false) := by kernel_rfl
@[go_sem] theorem ty_fd_39_3 : tfield Try.prog 39 3 = some (3, 1, false) := by kernel_rfl
@[go_sem] theorem ty_pl_39 : tplaces Try.prog 39 = some [(0, 1), (1, 1), (2, 1), (3, 1)] := by kernel_rfl
@[go_sem] theorem ty_fl_39 : tflat Try.prog 39 = some [(0, .int .i64), (1, .int .i64), (2, .int .i64), (3, .int .i64)] := by kernel_rfl
@[go_sem] theorem ty_ze_39 : tzero Try.prog 39 = some [(.int .i64 0), (.int .i64 0), (.int .i64 0), (.int .i64 0)] := by kernel_rfl
@[go_sem] theorem ty_sz_41 : tsz Try.prog 41 = some (1, false) := by kernel_rfl
@[go_sem] theorem ty_el_41 : telem Try.prog 41 = some (57, 3, 24) := by kernel_rfl
@[go_sem] theorem ty_ze_41 : tzero Try.prog 41 = some [.slice none 0 0] := by kernel_rfl
@[go_sem] theorem ty_sz_42 : tsz Try.prog 42 = some (1, false) := by kernel_rfl
@[go_sem] theorem ty_el_42 : telem Try.prog 42 = some (43, 1, 4) := by kernel_rfl
@[go_sem] theorem ty_ze_42 : tzero Try.prog 42 = some [.slice none 0 0] := by kernel_rfl
@[go_sem] theorem ty_sz_43 : tsz Try.prog 43 = some (1, false) := by kernel_rfl
@[go_sem] theorem ty_un_43 : Try.prog.underlying 43 = some (.int .u32) := by kernel_rfl
@[go_sem] theorem ty_el_43 : telem Try.prog 43 = none := by kernel_rfl
@[go_sem] theorem ty_ze_43 : tzero Try.prog 43 = some [(.int .u32 0)] := by kernel_rfl
@[go_sem] theorem ty_sz_44 : tsz Try.prog 44 = some (1, false) := by kernel_rfl
@[go_sem] theorem ty_el_44 : telem Try.prog 44 = some (22, 1, 24) := by kernel_rfl
@[go_sem] theorem ty_ze_44 : tzero Try.prog 44 = some [.slice none 0 0] := by kernel_rfl
@[go_sem] theorem ty_sz_46 : tsz Try.prog 46 = some (3, true) := by kernel_rfl
@[go_sem] theorem ty_el_46 : telem Try.prog 46 = none := by kernel_rfl
@[go_sem] theorem ty_fd_46_0 : tfield Try.prog 46 0 = some (0, 1, false) := by kernel_rfl
@[go_sem] theorem ty_fd_46_1 : tfield Try.prog 46 1 = some (1, 1, false) := by kernel_rfl
@[go_sem] theorem ty_fd_46_2 : tfield Try.prog 46 2 = some (2, 1, false) := by kernel_rfl
@[go_sem] theorem ty_pl_46 : tplaces Try.prog 46 = some [(0, 1), (1, 1), (2, 1)] := by kernel_rfl
@[go_sem] theorem ty_ze_46 : tzero Try.prog 46 = some [.slice none 0 0, (.int .u32 0), .slice none 0 0] := by kernel_rfl
@[go_sem] theorem ty_sz_57 : tsz Try.prog 57 = some (3, true) := by kernel_rfl
@[go_sem] theorem ty_el_57 : telem Try.prog 57 = none := by kernel_rfl
@[go_sem] theorem ty_fd_57_0 : tfield Try.prog 57 0 = some (0, 1, false) := by kernel_rfl
@[go_sem] theorem ty_fd_57_1 : tfield Try.prog 57 1 = some (1, 1, false) := by kernel_rfl
@[go_sem] theorem ty_fd_57_2 : tfield Try.prog 57 2 = some (2, 1, false) := by kernel_rfl
@[go_sem] theorem ty_pl_57 : tplaces Try.prog 57 = some [(0, 1), (1, 1), (2, 1)] := by kernel_rfl
@[go_sem] theorem ty_fl_57 : tflat Try.prog 57 = some [(0, .int .i64), (1, .int .i64), (2, .int .i64)] := by kernel_rfl
@[go_sem] theorem ty_ze_57 : tzero Try.prog 57 = some [(.int .i64 0), (.int .i64 0), (.int .i64 0)] := by kernel_rfl
@[go_sem] theorem ty_sz_61 : tsz Try.prog 61 = some (3, true) := by kernel_rfl
@[go_sem] theorem ty_el_61 : telem Try.prog 61 = none := by kernel_rfl
@[go_sem] theorem ty_fd_61_0 : tfield Try.prog 61 0 = some (0, 1, false) := by kernel_rfl
@[go_sem] theorem ty_fd_61_1 : tfield Try.prog 61 1 = some (1, 1, false) := by kernel_rfl
@[go_sem] theorem ty_fd_61_2 : tfield Try.prog 61 2 = some (2, 1, false) := by kernel_rfl
@[go_sem] theorem ty_pl_61 : tplaces Try.prog 61 = some [(0, 1), (1, 1), (2, 1)] := by kernel_rfl
@[go_sem] theorem ty_fl_61 : tflat Try.prog 61 = some [(0, .int .i64), (1, .int .i64), (2, .int .i64)] := by kernel_rfl
@[go_sem] theorem ty_ze_61 : tzero Try.prog 61 = some [(.int .i64 0), (.int .i64 0), (.int .i64 0)] := by kernel_rfl
@[go_sem] theorem ty_sz_62 : tsz Try.prog 62 = some (1, false) := by kernel_rfl
@[go_sem] theorem ty_un_62 : Try.prog.underlying 62 = some (.pointer 79) := by kernel_rfl
@[go_sem] theorem ty_el_62 : telem Try.prog 62 = none := by kernel_rfl
@[go_sem] theorem ty_ze_62 : tzero Try.prog 62 = some [.pointer none] := by kernel_rfl
@[go_sem] theorem ty_sz_77 : tsz Try.prog 77 = some (1, false) := by kernel_rfl
@[go_sem] theorem ty_el_77 : telem Try.prog 77 = none := by kernel_rfl
@[go_sem] theorem ty_ze_77 : tzero Try.prog 77 = some [.nilFunc] := by kernel_rfl
@[go_sem] theorem ty_sz_79 : tsz Try.prog 79 = some (3, true) := by kernel_rfl
@[go_sem] theorem ty_el_79 : telem Try.prog 79 = none := by kernel_rfl
@[go_sem] theorem ty_fd_79_0 : tfield Try.prog 79 0 = some (0, 1, false) := by kernel_rfl
@[go_sem] theorem ty_fd_79_1 : tfield Try.prog 79 1 = some (1, 1, false) := by kernel_rfl
@[go_sem] theorem ty_fd_79_2 : tfield Try.prog 79 2 = some (2, 1, false) := by kernel_rfl
@[go_sem] theorem ty_pl_79 : tplaces Try.prog 79 = some [(0, 1), (1, 1), (2, 1)] := by kernel_rfl
@[go_sem] theorem ty_ze_79 : tzero Try.prog 79 = some [.slice none 0 0, (.int .i64 0), (.int .i64 0)] := by kernel_rfl
@[go_sem] theorem ty_sz_80 : tsz Try.prog 80 = some (1, false) := by kernel_rfl
@[go_sem] theorem ty_el_80 : telem Try.prog 80 = some (9, 1, 16) := by kernel_rfl
@[go_sem] theorem ty_ze_80 : tzero Try.prog 80 = some [.slice none 0 0] := by kernel_rfl
@[go_sem] theorem ty_sz_82 : tsz Try.prog 82 = some (2, true) := by kernel_rfl
@[go_sem] theorem ty_el_82 : telem Try.prog 82 = none := by kernel_rfl
@[go_sem] theorem ty_fd_82_0 : tfield Try.prog 82 0 = some (0, 1, false) := by kernel_rfl
@[go_sem] theorem ty_fd_82_1 : tfield Try.prog 82 1 = some (1, 1, false) := by kernel_rfl
@[go_sem] theorem ty_pl_82 : tplaces Try.prog 82 = some [(0, 1), (1, 1)] := by kernel_rfl
@[go_sem] theorem ty_fl_82 : tflat Try.prog 82 = some [(0, .int .i64), (1, .int .i64)] := by kernel_rfl
@[go_sem] theorem ty_ze_82 : tzero Try.prog 82 = some [(.int .i64 0), (.int .i64 0)] := by kernel_rfl
@[go_sem] theorem ty_sz_85 : tsz Try.prog 85 = some (5, true) := by kernel_rfl
@[go_sem] theorem ty_el_85 : telem Try.prog 85 = none := by kernel_rfl
@[go_sem] theorem ty_fd_85_0 : tfield Try.prog 85 0 = some (0, 1, false) := by kernel_rfl
@[go_sem] theorem ty_fd_85_1 : tfield Try.prog 85 1 = some (1, 1, false) := by kernel_rfl
@[go_sem] theorem ty_fd_85_2 : tfield Try.prog 85 2 = some (2, 2, true) := by kernel_rfl
@[go_sem] theorem ty_fd_85_3 : tfield Try.prog 85 3 = some (4, 1, false) := by kernel_rfl
@[go_sem] theorem ty_pl_85 : tplaces Try.prog 85 = some [(0, 1), (1, 1), (2, 2), (4, 1)] := by kernel_rfl
@[go_sem] theorem ty_ze_85 : tzero Try.prog 85 = some [.string ByteArray.empty, (.int .i64 0), (.int .i64 0), (.int .i64 0), .slice none 0 0] := by kernel_rfl
@[go_sem] theorem ty_sz_95 : tsz Try.prog 95 = some (1, false) := by kernel_rfl
@[go_sem] theorem ty_el_95 : telem Try.prog 95 = none := by kernel_rfl
@[go_sem] theorem ty_ze_95 : tzero Try.prog 95 = some [.nilFunc] := by kernel_rfl
@[go_sem] theorem ty_sz_96 : tsz Try.prog 96 = some (1, false) := by kernel_rfl
@[go_sem] theorem ty_el_96 : telem Try.prog 96 = some (4, 1, 1) := by kernel_rfl
@[go_sem] theorem ty_ze_96 : tzero Try.prog 96 = some [.slice none 0 0] := by kernel_rfl
@[go_sem] theorem ty_sz_99 : tsz Try.prog 99 = some (1, false) := by kernel_rfl
@[go_sem] theorem ty_el_99 : telem Try.prog 99 = none := by kernel_rfl
@[go_sem] theorem ty_ze_99 : tzero Try.prog 99 = some [.nilFunc] := by kernel_rfl
@[go_sem] theorem ty_sz_113 : tsz Try.prog 113 = some (6, true) := by kernel_rfl
@[go_sem] theorem ty_el_113 : telem Try.prog 113 = none := by kernel_rfl
@[go_sem] theorem ty_ar_113 : tarr Try.prog 113 = some (6, 1, false) := by kernel_rfl
@[go_sem] theorem ty_pl_113 : tplaces Try.prog 113 = none := by kernel_rfl
@[go_sem] theorem ty_ze_113 : tzero Try.prog 113 = some [(.int .i64 0), (.int .i64 0), (.int .i64 0), (.int .i64 0), (.int .i64 0), (.int .i64 0)] := by kernel_rfl
@[go_sem] theorem ty_sz_131 : tsz Try.prog 131 = some (3, true) := by kernel_rfl
@[go_sem] theorem ty_el_131 : telem Try.prog 131 = none := by kernel_rfl
@[go_sem] theorem ty_fd_131_0 : tfield Try.prog 131 0 = some (0, 1, false) := by kernel_rfl
@[go_sem] theorem ty_fd_131_1 : tfield Try.prog 131 1 = some (1, 1, false) := by kernel_rfl
@[go_sem] theorem ty_fd_131_2 : tfield Try.prog 131 2 = some (2, 1, false) := by kernel_rfl
@[go_sem] theorem ty_pl_131 : tplaces Try.prog 131 = some [(0, 1), (1, 1), (2, 1)] := by kernel_rfl
@[go_sem] theorem ty_fl_131 : tflat Try.prog 131 = some [(0, .bool), (1, .bool), (2, .bool)] := by kernel_rfl
@[go_sem] theorem ty_ze_131 : tzero Try.prog 131 = some [.bool false, .bool false, .bool false] := by kernel_rfl
@[go_sem] theorem ty_sz_133 : tsz Try.prog 133 = some (1, false) := by kernel_rfl
@[go_sem] theorem ty_el_133 : telem Try.prog 133 = none := by kernel_rfl
@[go_sem] theorem ty_ze_133 : tzero Try.prog 133 = some [.nilFunc] := by kernel_rfl
@[go_sem] theorem ty_sz_135 : tsz Try.prog 135 = some (5, true) := by kernel_rfl
@[go_sem] theorem ty_el_135 : telem Try.prog 135 = none := by kernel_rfl
@[go_sem] theorem ty_fd_135_0 : tfield Try.prog 135 0 = some (0, 1, false) := by kernel_rfl
@[go_sem] theorem ty_fd_135_1 : tfield Try.prog 135 1 = some (1, 1, false) := by kernel_rfl
@[go_sem] theorem ty_fd_135_2 : tfield Try.prog 135 2 = some (2, 1, false) := by kernel_rfl
@[go_sem] theorem ty_fd_135_3 : tfield Try.prog 135 3 = some (3, 1, false) := by kernel_rfl
@[go_sem] theorem ty_fd_135_4 : tfield Try.prog 135 4 = some (4, 1, false) := by kernel_rfl
@[go_sem] theorem ty_pl_135 : tplaces Try.prog 135 = some [(0, 1), (1, 1), (2, 1), (3, 1), (4, 1)] := by kernel_rfl
@[go_sem] theorem ty_fl_135 : tflat Try.prog 135 = some [(0, .int .i64), (1, .int .i64), (2, .int .i64), (3, .int .i64), (4, .int .i64)] := by kernel_rfl
@[go_sem] theorem ty_ze_135 : tzero Try.prog 135 = some [(.int .i64 0), (.int .i64 0), (.int .i64 0), (.int .i64 0), (.int .i64 0)] := by kernel_rfl
@[go_sem] theorem ty_sz_139 : tsz Try.prog 139 = some (1, false) := by kernel_rfl
@[go_sem] theorem ty_el_139 : telem Try.prog 139 = none := by kernel_rfl
@[go_sem] theorem ty_ze_139 : tzero Try.prog 139 = some [.nilFunc] := by kernel_rfl
@[go_sem] theorem ty_en_6 : enters Try.prog 6 = true := by kernel_rfl
@[go_sem] theorem ty_en_7 : enters Try.prog 7 = true := by kernel_rfl
@[go_sem] theorem ty_en_8 : enters Try.prog 8 = true := by kernel_rfl
@[go_sem] theorem ty_en_9 : enters Try.prog 9 = true := by kernel_rfl
@[go_sem] theorem ty_en_10 : enters Try.prog 10 = true := by kernel_rfl
@[go_sem] theorem ty_en_11 : enters Try.prog 11 = true := by kernel_rfl
@[go_sem] theorem ty_en_12 : enters Try.prog 12 = true := by kernel_rfl
@[go_sem] theorem ty_en_13 : enters Try.prog 13 = true := by kernel_rfl
@[go_sem] theorem ty_en_14 : enters Try.prog 14 = true := by kernel_rfl
@[go_sem] theorem ty_en_15 : enters Try.prog 15 = true := by kernel_rfl
@[go_sem] theorem ty_en_16 : enters Try.prog 16 = true := by kernel_rfl
@[go_sem] theorem ty_en_17 : enters Try.prog 17 = true := by kernel_rfl
@[go_sem] theorem ty_en_18 : enters Try.prog 18 = true := by kernel_rfl
@[go_sem] theorem ty_en_19 : enters Try.prog 19 = true := by kernel_rfl
@[go_sem] theorem ty_en_20 : enters Try.prog 20 = true := by kernel_rfl
@[go_sem] theorem ty_en_21 : enters Try.prog 21 = true := by kernel_rfl
@[go_sem] theorem ty_en_22 : enters Try.prog 22 = true := by kernel_rfl
@[go_sem] theorem ty_en_23 : enters Try.prog 23 = true := by kernel_rfl
@[go_sem] theorem ty_en_24 : enters Try.prog 24 = true := by kernel_rfl
@[go_sem] theorem ty_en_25 : enters Try.prog 25 = true := by kernel_rfl
@[go_sem] theorem ty_en_26 : enters Try.prog 26 = true := by kernel_rfl
@[go_sem] theorem ty_en_27 : enters Try.prog 27 = true := by kernel_rfl
@[go_sem] theorem ty_en_28 : enters Try.prog 28 = true := by kernel_rfl
@[go_sem] theorem ty_en_29 : enters Try.prog 29 = true := by kernel_rfl
@[go_sem] theorem ty_en_30 : enters Try.prog 30 = true := by kernel_rfl
@[go_sem] theorem ty_en_31 : enters Try.prog 31 = true := by kernel_rfl
@[go_sem] theorem ty_en_32 : enters Try.prog 32 = true := by kernel_rfl
@[go_sem] theorem ty_en_33 : enters Try.prog 33 = true := by kernel_rfl
@[go_sem] theorem ty_en_34 : enters Try.prog 34 = true := by kernel_rfl
@[go_sem] theorem ty_en_35 : enters Try.prog 35 = true := by kernel_rfl
@[go_sem] theorem ty_en_36 : enters Try.prog 36 = true := by kernel_rfl
@[go_sem] theorem ty_en_37 : enters Try.prog 37 = true := by kernel_rfl
@[go_sem] theorem ty_en_38 : enters Try.prog 38 = true := by kernel_rfl
@[go_sem] theorem ty_en_39 : enters Try.prog 39 = true := by kernel_rfl
@[go_sem] theorem ty_en_40 : enters Try.prog 40 = true := by kernel_rfl
@[go_sem] theorem ty_en_41 : enters Try.prog 41 = true := by kernel_rfl
@[go_sem] theorem ty_en_42 : enters Try.prog 42 = true := by kernel_rfl
@[go_sem] theorem ty_en_43 : enters Try.prog 43 = true := by kernel_rfl
@[go_sem] theorem ty_en_44 : enters Try.prog 44 = true := by kernel_rfl
@[go_sem] theorem ty_en_45 : enters Try.prog 45 = true := by kernel_rfl
@[go_sem] theorem ty_en_46 : enters Try.prog 46 = true := by kernel_rfl
@[go_sem] theorem ty_en_47 : enters Try.prog 47 = true := by kernel_rfl
@[go_sem] theorem ty_en_48 : enters Try.prog 48 = true := by kernel_rfl
@[go_sem] theorem ty_en_49 : enters Try.prog 49 = true := by kernel_rfl
@[go_sem] theorem ty_en_50 : enters Try.prog 50 = true := by kernel_rfl
@[go_sem] theorem ty_en_51 : enters Try.prog 51 = true := by kernel_rfl
@[go_sem] theorem ty_en_52 : enters Try.prog 52 = true := by kernel_rfl
@[go_sem] theorem ty_en_53 : enters Try.prog 53 = true := by kernel_rfl
@[go_sem] theorem ty_en_54 : enters Try.prog 54 = true := by kernel_rfl
@[go_sem] theorem ty_en_55 : enters Try.prog 55 = true := by kernel_rfl
@[go_sem] theorem ty_en_56 : enters Try.prog 56 = true := by kernel_rfl
@[go_sem] theorem ty_en_57 : enters Try.prog 57 = true := by kernel_rfl
@[go_sem] theorem ty_en_58 : enters Try.prog 58 = true := by kernel_rfl
@[go_sem] theorem ty_en_59 : enters Try.prog 59 = true := by kernel_rfl
@[go_sem] theorem ty_en_60 : enters Try.prog 60 = true := by kernel_rfl
@[go_sem] theorem ty_en_61 : enters Try.prog 61 = true := by kernel_rfl
@[go_sem] theorem ty_en_62 : enters Try.prog 62 = true := by kernel_rfl
@[go_sem] theorem ty_en_63 : enters Try.prog 63 = true := by kernel_rfl
@[go_sem] theorem ty_en_64 : enters Try.prog 64 = true := by kernel_rfl
@[go_sem] theorem ty_en_65 : enters Try.prog 65 = true := by kernel_rfl
@[go_sem] theorem ty_en_66 : enters Try.prog 66 = true := by kernel_rfl
@[go_sem] theorem ty_en_67 : enters Try.prog 67 = true := by kernel_rfl
@[go_sem] theorem ty_en_68 : enters Try.prog 68 = true := by kernel_rfl
@[go_sem] theorem ty_en_69 : enters Try.prog 69 = true := by kernel_rfl
@[go_sem] theorem ty_en_70 : enters Try.prog 70 = true := by kernel_rfl
@[go_sem] theorem ty_en_71 : enters Try.prog 71 = true := by kernel_rfl
@[go_sem] theorem ty_en_72 : enters Try.prog 72 = true := by kernel_rfl
@[go_sem] theorem ty_en_73 : enters Try.prog 73 = true := by kernel_rfl
@[go_sem] theorem ty_en_74 : enters Try.prog 74 = true := by kernel_rfl
@[go_sem] theorem ty_en_75 : enters Try.prog 75 = true := by kernel_rfl
@[go_sem] theorem ty_en_76 : enters Try.prog 76 = true := by kernel_rfl
@[go_sem] theorem ty_en_77 : enters Try.prog 77 = true := by kernel_rfl
@[go_sem] theorem ty_en_78 : enters Try.prog 78 = true := by kernel_rfl
@[go_sem] theorem ty_en_79 : enters Try.prog 79 = true := by kernel_rfl
@[go_sem] theorem ty_en_80 : enters Try.prog 80 = true := by kernel_rfl
@[go_sem] theorem ty_en_81 : enters Try.prog 81 = true := by kernel_rfl
@[go_sem] theorem ty_en_82 : enters Try.prog 82 = true := by kernel_rfl
@[go_sem] theorem ty_en_83 : enters Try.prog 83 = true := by kernel_rfl
@[go_sem] theorem ty_en_84 : enters Try.prog 84 = true := by kernel_rfl
@[go_sem] theorem ty_en_85 : enters Try.prog 85 = true := by kernel_rfl
@[go_sem] theorem ty_en_86 : enters Try.prog 86 = true := by kernel_rfl
@[go_sem] theorem ty_en_87 : enters Try.prog 87 = true := by kernel_rfl
@[go_sem] theorem ty_en_88 : enters Try.prog 88 = true := by kernel_rfl
@[go_sem] theorem ty_en_89 : enters Try.prog 89 = true := by kernel_rfl
@[go_sem] theorem ty_en_90 : enters Try.prog 90 = true := by kernel_rfl
@[go_sem] theorem ty_en_91 : enters Try.prog 91 = true := by kernel_rfl
@[go_sem] theorem ty_en_92 : enters Try.prog 92 = true := by kernel_rfl
@[go_sem] theorem ty_en_93 : enters Try.prog 93 = true := by kernel_rfl
@[go_sem] theorem ty_en_94 : enters Try.prog 94 = true := by kernel_rfl
@[go_sem] theorem ty_en_95 : enters Try.prog 95 = true := by kernel_rfl
@[go_sem] theorem ty_en_96 : enters Try.prog 96 = true := by kernel_rfl
@[go_sem] theorem ty_en_97 : enters Try.prog 97 = true := by kernel_rfl
@[go_sem] theorem ty_en_98 : enters Try.prog 98 = true := by kernel_rfl
@[go_sem] theorem ty_en_99 : enters Try.prog 99 = true := by kernel_rfl
@[go_sem] theorem ty_en_100 : enters Try.prog 100 = true := by kernel_rfl
@[go_sem] theorem ty_en_101 : enters Try.prog 101 = true := by kernel_rfl
@[go_sem] theorem ty_en_102 : enters Try.prog 102 = true := by kernel_rfl
@[go_sem] theorem ty_en_103 : enters Try.prog 103 = true := by kernel_rfl
@[go_sem] theorem ty_en_104 : enters Try.prog 104 = true := by kernel_rfl
@[go_sem] theorem ty_en_105 : enters Try.prog 105 = true := by kernel_rfl
@[go_sem] theorem ty_en_106 : enters Try.prog 106 = true := by kernel_rfl
@[go_sem] theorem ty_en_107 : enters Try.prog 107 = true := by kernel_rfl
@[go_sem] theorem ty_en_108 : enters Try.prog 108 = true := by kernel_rfl
@[go_sem] theorem ty_en_109 : enters Try.prog 109 = true := by kernel_rfl
@[go_sem] theorem ty_en_110 : enters Try.prog 110 = true := by kernel_rfl
@[go_sem] theorem ty_en_111 : enters Try.prog 111 = true := by kernel_rfl
@[go_sem] theorem ty_en_112 : enters Try.prog 112 = true := by kernel_rfl
@[go_sem] theorem ty_en_113 : enters Try.prog 113 = true := by kernel_rfl
@[go_sem] theorem ty_en_114 : enters Try.prog 114 = true := by kernel_rfl
@[go_sem] theorem ty_en_115 : enters Try.prog 115 = true := by kernel_rfl
@[go_sem] theorem ty_en_116 : enters Try.prog 116 = true := by kernel_rfl
@[go_sem] theorem ty_en_117 : enters Try.prog 117 = true := by kernel_rfl
@[go_sem] theorem ty_en_118 : enters Try.prog 118 = true := by kernel_rfl
@[go_sem] theorem ty_en_119 : enters Try.prog 119 = true := by kernel_rfl
@[go_sem] theorem ty_en_120 : enters Try.prog 120 = true := by kernel_rfl
@[go_sem] theorem ty_en_121 : enters Try.prog 121 = true := by kernel_rfl
@[go_sem] theorem ty_en_122 : enters Try.prog 122 = true := by kernel_rfl
@[go_sem] theorem ty_en_123 : enters Try.prog 123 = true := by kernel_rfl
@[go_sem] theorem ty_en_124 : enters Try.prog 124 = true := by kernel_rfl
@[go_sem] theorem ty_en_125 : enters Try.prog 125 = true := by kernel_rfl
@[go_sem] theorem ty_en_126 : enters Try.prog 126 = true := by kernel_rfl
@[go_sem] theorem ty_en_127 : enters Try.prog 127 = true := by kernel_rfl
@[go_sem] theorem ty_en_128 : enters Try.prog 128 = true := by kernel_rfl
@[go_sem] theorem ty_en_129 : enters Try.prog 129 = true := by kernel_rfl
theorem mixed_any : Try.prog.follows .mixedOrders = true := by kernel_rfl
end Go.Proofs.Ytepahgbgijmipaa
