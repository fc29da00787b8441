/- AmC1: small codes of functions, printed by a program. -/
import Derived.Test.YtdfimlepfaheeaaGreatAmP
set_option linter.unusedVariables false
namespace Go.AM
def n_law35_EchoTrue : Nat := 3
def n_law22_RegOf : Nat := 6
def n_term_New : Nat := 7
def n_law35_alive : Nat := 8
def n_echo_New : Nat := 9
def n_reg_Of : Nat := 10
def n_echo_Echo_See : Nat := 11
def n_echo_Echo_Type : Nat := 12
def n_echo_Echo_Quiet : Nat := 13
def n_term_Term_Feed : Nat := 14
def n_echo_Echo_Hits : Nat := 15
def n_echo_Echo_Misses : Nat := 16
def n_echo_Echo_Guesses : Nat := 17
def n_echo_Echo_Show : Nat := 18
def n_law19_Fits : Nat := 30
def n_view_Of : Nat := 33
def n_view_Right : Nat := 34
def n_law20_As : Nat := 36
def n_law22_alive : Nat := 37
def n_term_Term_Resize : Nat := 38
def n_term_Term_Clip : Nat := 39
def n_term_Term_Grid : Nat := 40
def n_term_Term_Cursor : Nat := 41
def n_reg_Right : Nat := 42
def n_term_Term_Title : Nat := 43
def n_term_Term_Bells : Nat := 44
def n_grid_Grid_Rows : Nat := 45
def n_ref20_Right : Nat := 46
def n_utf_New : Nat := 47
def n_ansi_New : Nat := 48
def n_grid_New : Nat := 49
def n_term_Term_reset : Nat := 50
def n_reg_First : Nat := 51
def n_law35_wide : Nat := 52
def n_echo_Echo_rest : Nat := 53
def n_echo_Echo_is : Nat := 54
def n_slices_Clone_grid_Cell_grid_Cell : Nat := 55
def n_echo_Echo_right : Nat := 56
def n_echo_Echo_giveUp : Nat := 57
def n_slices_Clone_echo_Guess_echo_Guess : Nat := 58
def n_echo_Echo_print : Nat := 59
def n_echo_Echo_rub : Nat := 60
def n_term_Term_made : Nat := 61
def n_utf_Reader_Read : Nat := 62
def n_ansi_Parser_Feed : Nat := 63
def n_term_Term_print : Nat := 64
def n_term_Term_control : Nat := 65
def n_term_Term_escape : Nat := 66
def n_term_Term_sequence : Nat := 67
def n_term_Term_system : Nat := 68
def n_echo_index : Nat := 69
def n_view_First : Nat := 88
def n_view_Same : Nat := 90
def n_grid_Grid_Cols : Nat := 94
def n_grid_Grid_Line : Nat := 95
def n_slices_ContainsFunc_grid_Cell_grid_Cell : Nat := 96
def n_view_Right_1 : Nat := 97
def n_view_isCell : Nat := 98
def n_law17_Cell : Nat := 100
def n_reg_Diff : Nat := 101
def n_reg_Apply : Nat := 102
def n_reg_Same : Nat := 103
def n_grid_Grid_Resize : Nat := 104
def n_grid_Blank : Nat := 105
def n_term_Term_region : Nat := 106
def n_term_Term_move : Nat := 107
def n_term_Term_g : Nat := 108
def n_grid_Grid_Copy : Nat := 109
def n_ref17_Grid_Has : Nat := 110
def n_ref20_IsCell : Nat := 111
def n_grid_fits : Nat := 112
def n_grid_line : Nat := 113
def n_grid_Grid_Fill : Nat := 114
def n_echo_Echo_cursor : Nat := 115
def n_utf_Reader_begin : Nat := 116
def n_ansi_Parser_take : Nat := 117
def n_term_Term_index : Nat := 118
def n_grid_Grid_Insert : Nat := 119
def n_term_Term_erased : Nat := 120
def n_grid_Grid_Put : Nat := 121
def n_term_Term_tab : Nat := 122
def n_term_Term_align : Nat := 123
def n_term_Term_back : Nat := 124
def n_term_Term_save : Nat := 125
def n_term_Term_restore : Nat := 126
def n_term_Term_mode : Nat := 127
def n_term_Term_travel : Nat := 128
def n_term_Term_edit : Nat := 129
def n_term_Term_set : Nat := 130
def n_osc_Read : Nat := 131
def n_slices_Clone_byte_byte : Nat := 136
def n_vint_Put : Nat := 140
def n_vint_Get : Nat := 147
def n_view_PutCell : Nat := 153
def n_view_GetCell : Nat := 154
def n_slices_Repeat_grid_Cell_grid_Cell : Nat := 155
def n_bytes_Equal : Nat := 156
def n_slices_Equal_grid_Cell_grid_Cell : Nat := 157
def n_grid_Grid_has : Nat := 164
def n_slices_IndexFunc_grid_Cell_grid_Cell : Nat := 165
def n_utf_Is : Nat := 166
def n_style_Right : Nat := 167
def n_law16_As : Nat := 168
def n_patch_Diff : Nat := 169
def n_reg_Diff_1 : Nat := 170
def n_reg_State_clipping : Nat := 171
def n_vint_PutFields : Nat := 172
def n_vint_Fields : Nat := 173
def n_vint_Find : Nat := 174
def n_patch_Apply : Nat := 175
def n_grid_Grid_made : Nat := 176
def n_ref13_Is : Nat := 177
def n_ref16_Right : Nat := 178
def n_ansi_Parser_enter : Nat := 179
def n_ansi_Parser_operating : Nat := 180
def n_ansi_Parser_escaped : Nat := 181
def n_ansi_Parser_control : Nat := 182
def n_grid_Grid_Up : Nat := 183
def n_grid_Grid_cells : Nat := 184
def n_grid_Grid_Down : Nat := 185
def n_term_Term_home : Nat := 186
def n_term_Term_screen : Nat := 187
def n_term_number : Nat := 188
def n_term_Term_up : Nat := 189
def n_term_Term_down : Nat := 190
def n_term_Term_place : Nat := 191
def n_term_Term_display : Nat := 192
def n_term_Term_line : Nat := 193
def n_term_Term_lines : Nat := 194
def n_grid_Grid_Delete : Nat := 195
def n_style_Change : Nat := 196
def n_slices_Contains_int_int : Nat := 197
def n_strings_HasPrefix : Nat := 198
def n_osc_Cut : Nat := 199
def n_osc_clip : Nat := 200
def n_vint_Size : Nat := 204
def n_vint_class : Nat := 205
def n_style_Write : Nat := 216
def n_style_Read : Nat := 217
def n_math_bits_Mul : Nat := 218
def n_style_isColour : Nat := 232
def n_ref16_Of : Nat := 233
def n_patch_base : Nat := 234
def n_patch_numbers : Nat := 235
def n_slices_IndexFunc_vint_Field_vint_Field : Nat := 236
def n_vint_Find_1 : Nat := 237
def n_patch_runs : Nat := 238
def n_ref16_isColour : Nat := 239
def n_ansi_Parser_tell : Nat := 240
def n_ansi_Parser_inter : Nat := 241
def n_ansi_Parser_end : Nat := 242
def n_ansi_Parser_digit : Nat := 243
def n_ansi_Parser_next : Nat := 244
def n_grid_Grid_rows : Nat := 245
def n_style_Style_plain : Nat := 246
def n_style_colour : Nat := 247
def n_slices_Index_int_int : Nat := 248
def n_stringslite_HasPrefix : Nat := 249
def n_osc_follows : Nat := 250
def n_strings_IndexByte : Nat := 251
def n_base_Read : Nat := 252
def n_vint_tops : Nat := 253
def n_math_bits_Mul32 : Nat := 261
def n_math_bits_Mul64 : Nat := 262
def n_style_flag : Nat := 280
def n_stringslite_IndexByte : Nat := 281
def n_base_Fault : Nat := 282
def n_base_value : Nat := 283
def n_bytealg_IndexByteString : Nat := 304
def n_base_ends : Nat := 305
def t_0 : Nat := 0
def t_int : Nat := 3
def t_bool : Nat := 4
def t_uint8 : Nat := 5
def t_string : Nat := 9
def t_interface : Nat := 20
def t_int32 : Nat := 21
def t_S_uint8 : Nat := 22
def t_P_term_Term : Nat := 23
def t_api_Errno : Nat := 24
def t_P_term_Term_api_Errno : Nat := 25
def t_P_echo_Echo : Nat := 28
def t_S_grid_Cell : Nat := 30
def t_view_View : Nat := 32
def t_uint64 : Nat := 33
def t_reg_State : Nat := 35
def t_reg_State_api_Errno : Nat := 36
def t_S_echo_Guess : Nat := 41
def t_view_View_api_Errno : Nat := 43
def t_uint32 : Nat := 45
def t_style_Style : Nat := 47
def t_grid_Cell : Nat := 49
def t_S_longlinelaw19_Op : Nat := 74
def t_longlinelaw19_Op : Nat := 79
def t_S_longlineref17_Cell : Nat := 82
def t_longlineref17_Grid : Nat := 84
def t_S_int32 : Nat := 85
def t_8_bool : Nat := 89
def t_longlineref16_Style : Nat := 91
def t_40_bool : Nat := 94
def t_longlineref20_View : Nat := 98
def t_string_int : Nat := 104
def t_P_grid_Grid : Nat := 106
def t_int_int_bool : Nat := 108
def t_P_utf_Reader : Nat := 113
def t_P_ansi_Parser : Nat := 115
def t_2_P_grid_Grid : Nat := 117
def t_term_modes : Nat := 119
def t_term_saved : Nat := 121
def t_term_Term : Nat := 123
def t_P_grid_Grid_api_Errno : Nat := 124
def t_echo_place : Nat := 129
def t_echo_Echo : Nat := 131
def t_echo_Guess : Nat := 134
def t_S_int32_api_Errno : Nat := 138
def t_S_ansi_Event : Nat := 140
def t_S_ansi_Event_api_Errno : Nat := 141
def t_S_int : Nat := 143
def t_ansi_Event : Nat := 145
def t_S_uint8_api_Errno : Nat := 162
def t_S_grid_Cell_api_Errno : Nat := 178
def t_func_grid_Cell_bool : Nat := 181
def t_longlineref17_Cell : Nat := 184
def t_S_S_grid_Cell : Nat := 191
def t_grid_Grid : Nat := 193
def t_utf_Reader : Nat := 196
def t_ansi_Parser : Nat := 198
def t_uint : Nat := 202
def t_osc_Ask : Nat := 207
def t_osc_Ask_api_Errno : Nat := 208
def t_uint64_int_api_Errno : Nat := 244
def t_grid_Cell_int_api_Errno : Nat := 253
def t_vint_Field : Nat := 273
def t_S_vint_Field : Nat := 274
def t_func_bool_uint8_S_uint8 : Nat := 275
def t_reg_clipping : Nat := 277
def t_S_vint_Field_api_Errno : Nat := 280
def t_S_uint8_bool : Nat := 282
def t_style_Style_int_api_Errno : Nat := 312
def t_uint_uint : Nat := 314
def t_func_vint_Field_bool : Nat := 330
def t_S_patch_run : Nat := 331
def t_S_patch_run_bool : Nat := 332
def t_patch_run : Nat := 335
def t_uint32_int_bool : Nat := 337
def t_4_uint64 : Nat := 358
def t_2_uint32 : Nat := 369
def t_2_uint64 : Nat := 370
def t_uint32_uint32 : Nat := 371
def t_uint64_uint64 : Nat := 373
def t_P_style_Style : Nat := 383
/-- longlinelaw35.EchoTrue -/
def a_law35_EchoTrue : AFn := ⟨206,
 (.seq
  (.ops [
    ⟨some 6, none, .mv (.const (.bool false))⟩])
  (.seq
   (.ops [
     ⟨some 23, none, .mv (.tmp 0)⟩,
     ⟨some 24, none, .call n_term_New [(.const (.int .i64 2)), (.tmp 23)]⟩,
     ⟨some 22, none, .mv (.tmp 24)⟩,
     ⟨some 25, none, .ext (.tmp 22) 0⟩,
     ⟨some 26, none, .ext (.tmp 22) 1⟩,
     ⟨some 7, none, .mv (.tmp 25)⟩,
     ⟨some 8, none, .mv (.tmp 26)⟩])
   (.seq
    (.seq
     (.ops [
       ⟨some 27, none, .mv (.tmp 8)⟩,
       ⟨some 28, none, .bin .neq t_api_Errno (.tmp 27) (.const (.int .i64 0))⟩,
       ⟨some 29, none, .mv (.tmp 28)⟩,
       ⟨some 30, some (29, false), .mv (.tmp 7)⟩,
       ⟨some 31, some (29, false), .bin .eql t_P_term_Term (.tmp 30) (.const (.pointer none))⟩,
       ⟨some 32, none, .pick (.tmp 29) (.const (.bool true)) (.tmp 31)⟩])
     (.cond (.tmp 32)
      (.seq
       (.ops [
         ⟨some 33, none, .call n_law35_alive []⟩,
         ⟨some 34, none, .mv (.tmp 33)⟩,
         ⟨some 35, some (34, true), .mv (.tmp 0)⟩,
         ⟨some 36, some (34, true), .bin .lss t_int (.tmp 35) (.const (.int .i64 1))⟩,
         ⟨some 37, some (34, true), .mv (.tmp 36)⟩,
         ⟨some 38, some (37, false), .mv (.tmp 0)⟩,
         ⟨some 39, some (37, false), .bin .gtr t_int (.tmp 38) (.const (.int .i64 40))⟩,
         ⟨some 40, some (34, true), .pick (.tmp 37) (.const (.bool true)) (.tmp 39)⟩,
         ⟨some 41, none, .pick (.tmp 34) (.tmp 40) (.const (.bool false))⟩,
         ⟨some 6, none, .mv (.tmp 41)⟩])
       (.ret))
      (.skip)))
    (.seq
     (.ops [
       ⟨some 42, none, .call n_echo_New []⟩,
       ⟨some 9, none, .mv (.tmp 42)⟩])
     (.seq
      (.ops [
        ⟨some 44, none, .mv (.tmp 7)⟩,
        ⟨some 45, none, .call n_reg_Of [(.tmp 44)]⟩,
        ⟨some 43, none, .mv (.tmp 45)⟩,
        ⟨some 46, none, .ext (.tmp 43) 0⟩,
        ⟨some 47, none, .ext (.tmp 43) 1⟩,
        ⟨some 10, none, .new t_reg_State [(.int .i64 0), (.int .i64 0), (.slice none 0 0), (.int .i64 0), (.int .i64 0), (.bool false), (.string .empty), (.string .empty), (.int .u64 0), (.int .u64 0)]⟩,
        ⟨none, none, .store 10 (.tmp 10) (.tmp 46)⟩,
        ⟨some 11, none, .mv (.tmp 47)⟩])
      (.seq
       (.seq
        (.ops [
          ⟨some 48, none, .mv (.tmp 9)⟩,
          ⟨some 49, none, .bin .eql t_P_echo_Echo (.tmp 48) (.const (.pointer none))⟩,
          ⟨some 50, none, .mv (.tmp 49)⟩,
          ⟨some 51, some (50, false), .mv (.tmp 11)⟩,
          ⟨some 52, some (50, false), .bin .neq t_api_Errno (.tmp 51) (.const (.int .i64 0))⟩,
          ⟨some 53, none, .pick (.tmp 50) (.const (.bool true)) (.tmp 52)⟩,
          ⟨some 54, none, .mv (.tmp 53)⟩,
          ⟨some 55, some (54, false), .mv (.tmp 9)⟩,
          ⟨some 56, some (54, false), .loadN 10 (.tmp 10)⟩,
          ⟨some 57, some (54, false), .call n_echo_Echo_See [(.tmp 55), (.tmp 56), (.const (.int .u64 0))]⟩,
          ⟨some 58, some (54, false), .bin .neq t_api_Errno (.tmp 57) (.const (.int .i64 0))⟩,
          ⟨some 59, none, .pick (.tmp 54) (.const (.bool true)) (.tmp 58)⟩])
        (.cond (.tmp 59)
         (.seq
          (.ops [
            ⟨some 6, none, .mv (.const (.bool false))⟩])
          (.ret))
         (.skip)))
       (.seq
        (.ops [
          ⟨some 12, none, .mv (.const (.slice none 0 0))⟩])
        (.seq
         (.seq
          (.ops [
            ⟨some 13, none, .mv (.const (.int .i64 0))⟩])
          (.block 0
           (.loop
            (.seq
             (.seq
              (.ops [
                ⟨some 60, none, .mv (.tmp 13)⟩,
                ⟨some 61, none, .mv (.tmp 1)⟩,
                ⟨some 62, none, .len (.tmp 61)⟩,
                ⟨some 63, none, .bin .lss t_int (.tmp 60) (.tmp 62)⟩,
                ⟨some 64, none, .mv (.tmp 63)⟩,
                ⟨some 65, some (64, true), .mv (.tmp 13)⟩,
                ⟨some 66, some (64, true), .mv (.tmp 0)⟩,
                ⟨some 67, some (64, true), .bin .sub t_int (.tmp 66) (.const (.int .i64 1))⟩,
                ⟨some 68, some (64, true), .bin .lss t_int (.tmp 65) (.tmp 67)⟩,
                ⟨some 69, none, .pick (.tmp 64) (.tmp 68) (.const (.bool false))⟩])
              (.cond (.tmp 69)
               (.skip)
               (.exit 0)))
             (.seq
              (.block 1
               (.ops [
                 ⟨some 72, none, .mv (.tmp 12)⟩,
                 ⟨some 73, none, .mv (.tmp 1)⟩,
                 ⟨some 74, none, .mv (.tmp 13)⟩,
                 ⟨some 75, none, .idxS 1 (.tmp 73) (.tmp 74)⟩,
                 ⟨some 76, none, .load1 (.tmp 75)⟩,
                 ⟨some 77, none, .bin .rem t_uint8 (.tmp 76) (.const (.int .u8 95))⟩,
                 ⟨some 78, none, .bin .add t_uint8 (.const (.int .u8 32)) (.tmp 77)⟩,
                 ⟨some 79, none, .gen (.buildSlice t_S_uint8 1 #[(0, (.tmp 78))]) t_S_uint8⟩,
                 ⟨some 80, none, .gen (.call ⟨.builtin .append, #[(.tmp 72), (.tmp 79)], #[t_S_uint8, t_S_uint8]⟩) t_S_uint8⟩,
                 ⟨some 12, none, .mv (.tmp 80)⟩]))
              (.ops [
                ⟨some 70, none, .mv (.tmp 13)⟩,
                ⟨some 71, none, .bin .add t_int (.tmp 70) (.const (.int .i64 1))⟩,
                ⟨some 13, none, .mv (.tmp 71)⟩]))))))
         (.seq
          (.ops [
            ⟨some 14, none, .mv (.const (.int .i64 0))⟩])
          (.seq
           (.seq
            (.ops [
              ⟨some 15, none, .mv (.const (.int .i64 0))⟩])
            (.block 2
             (.loop
              (.seq
               (.seq
                (.ops [
                  ⟨some 81, none, .mv (.tmp 15)⟩,
                  ⟨some 82, none, .mv (.tmp 12)⟩,
                  ⟨some 83, none, .len (.tmp 82)⟩,
                  ⟨some 84, none, .bin .lss t_int (.tmp 81) (.tmp 83)⟩])
                (.cond (.tmp 84)
                 (.skip)
                 (.exit 2)))
               (.seq
                (.block 3
                 (.seq
                  (.seq
                   (.ops [
                     ⟨some 87, none, .mv (.tmp 9)⟩,
                     ⟨some 88, none, .mv (.tmp 12)⟩,
                     ⟨some 89, none, .mv (.tmp 15)⟩,
                     ⟨some 90, none, .mv (.tmp 15)⟩,
                     ⟨some 91, none, .bin .add t_int (.tmp 90) (.const (.int .i64 1))⟩,
                     ⟨some 92, none, .gen (.slice t_S_uint8 (.tmp 88) (some (.tmp 89)) (some (.tmp 91)) none) t_S_uint8⟩,
                     ⟨some 93, none, .call n_echo_Echo_Type [(.tmp 87), (.tmp 92)]⟩,
                     ⟨some 94, none, .bin .neq t_api_Errno (.tmp 93) (.const (.int .i64 0))⟩,
                     ⟨some 95, none, .mv (.tmp 94)⟩,
                     ⟨some 96, some (95, false), .mv (.tmp 9)⟩,
                     ⟨some 97, some (95, false), .call n_echo_Echo_Quiet [(.tmp 96)]⟩,
                     ⟨some 98, none, .pick (.tmp 95) (.const (.bool true)) (.tmp 97)⟩])
                   (.cond (.tmp 98)
                    (.seq
                     (.ops [
                       ⟨some 6, none, .mv (.const (.bool false))⟩])
                     (.ret))
                    (.skip)))
                  (.seq
                   (.ops [
                     ⟨some 16, none, .mv (.const (.int .i64 1))⟩])
                   (.seq
                    (.seq
                     (.ops [
                       ⟨some 99, none, .mv (.tmp 15)⟩,
                       ⟨some 100, none, .mv (.tmp 2)⟩,
                       ⟨some 101, none, .len (.tmp 100)⟩,
                       ⟨some 102, none, .bin .lss t_int (.tmp 99) (.tmp 101)⟩])
                     (.cond (.tmp 102)
                      (.ops [
                        ⟨some 103, none, .mv (.tmp 2)⟩,
                        ⟨some 104, none, .mv (.tmp 15)⟩,
                        ⟨some 105, none, .idxS 1 (.tmp 103) (.tmp 104)⟩,
                        ⟨some 106, none, .load1 (.tmp 105)⟩,
                        ⟨some 107, none, .gen (.binOp .and t_uint8 (.tmp 106) (.const (.int .u8 3)) t_uint8) t_uint8⟩,
                        ⟨some 108, none, .gen (.convert t_uint8 t_int (.tmp 107)) t_int⟩,
                        ⟨some 16, none, .mv (.tmp 108)⟩])
                      (.skip)))
                    (.seq
                     (.seq
                      (.ops [
                        ⟨some 17, none, .mv (.const (.int .i64 0))⟩])
                      (.block 4
                       (.loop
                        (.seq
                         (.seq
                          (.ops [
                            ⟨some 109, none, .mv (.tmp 17)⟩,
                            ⟨some 110, none, .mv (.tmp 16)⟩,
                            ⟨some 111, none, .bin .lss t_int (.tmp 109) (.tmp 110)⟩,
                            ⟨some 112, none, .mv (.tmp 111)⟩,
                            ⟨some 113, some (112, true), .mv (.tmp 14)⟩,
                            ⟨some 114, some (112, true), .mv (.tmp 15)⟩,
                            ⟨some 115, some (112, true), .bin .leq t_int (.tmp 113) (.tmp 114)⟩,
                            ⟨some 116, none, .pick (.tmp 112) (.tmp 115) (.const (.bool false))⟩])
                          (.cond (.tmp 116)
                           (.skip)
                           (.exit 4)))
                         (.seq
                          (.block 5
                           (.seq
                            (.seq
                             (.ops [
                               ⟨some 119, none, .mv (.tmp 7)⟩,
                               ⟨some 120, none, .mv (.tmp 12)⟩,
                               ⟨some 121, none, .mv (.tmp 14)⟩,
                               ⟨some 122, none, .mv (.tmp 14)⟩,
                               ⟨some 123, none, .bin .add t_int (.tmp 122) (.const (.int .i64 1))⟩,
                               ⟨some 124, none, .gen (.slice t_S_uint8 (.tmp 120) (some (.tmp 121)) (some (.tmp 123)) none) t_S_uint8⟩,
                               ⟨some 125, none, .call n_term_Term_Feed [(.tmp 119), (.tmp 124)]⟩,
                               ⟨some 126, none, .bin .neq t_api_Errno (.tmp 125) (.const (.int .i64 0))⟩])
                             (.cond (.tmp 126)
                              (.seq
                               (.ops [
                                 ⟨some 6, none, .mv (.const (.bool false))⟩])
                               (.ret))
                              (.skip)))
                            (.ops [
                              ⟨some 127, none, .mv (.tmp 14)⟩,
                              ⟨some 128, none, .bin .add t_int (.tmp 127) (.const (.int .i64 1))⟩,
                              ⟨some 14, none, .mv (.tmp 128)⟩])))
                          (.ops [
                            ⟨some 117, none, .mv (.tmp 17)⟩,
                            ⟨some 118, none, .bin .add t_int (.tmp 117) (.const (.int .i64 1))⟩,
                            ⟨some 17, none, .mv (.tmp 118)⟩]))))))
                     (.seq
                      (.ops [
                        ⟨some 130, none, .mv (.tmp 7)⟩,
                        ⟨some 131, none, .call n_reg_Of [(.tmp 130)]⟩,
                        ⟨some 129, none, .mv (.tmp 131)⟩,
                        ⟨some 132, none, .ext (.tmp 129) 0⟩,
                        ⟨some 133, none, .ext (.tmp 129) 1⟩,
                        ⟨some 18, none, .new t_reg_State [(.int .i64 0), (.int .i64 0), (.slice none 0 0), (.int .i64 0), (.int .i64 0), (.bool false), (.string .empty), (.string .empty), (.int .u64 0), (.int .u64 0)]⟩,
                        ⟨none, none, .store 10 (.tmp 18) (.tmp 132)⟩,
                        ⟨some 19, none, .mv (.tmp 133)⟩])
                      (.seq
                       (.seq
                        (.ops [
                          ⟨some 134, none, .mv (.tmp 19)⟩,
                          ⟨some 135, none, .bin .neq t_api_Errno (.tmp 134) (.const (.int .i64 0))⟩,
                          ⟨some 136, none, .mv (.tmp 135)⟩,
                          ⟨some 137, some (136, false), .mv (.tmp 9)⟩,
                          ⟨some 138, some (136, false), .loadN 10 (.tmp 18)⟩,
                          ⟨some 139, some (136, false), .mv (.tmp 14)⟩,
                          ⟨some 140, some (136, false), .gen (.convert t_int t_uint64 (.tmp 139)) t_uint64⟩,
                          ⟨some 141, some (136, false), .call n_echo_Echo_See [(.tmp 137), (.tmp 138), (.tmp 140)]⟩,
                          ⟨some 142, some (136, false), .bin .neq t_api_Errno (.tmp 141) (.const (.int .i64 0))⟩,
                          ⟨some 143, none, .pick (.tmp 136) (.const (.bool true)) (.tmp 142)⟩,
                          ⟨some 144, none, .mv (.tmp 143)⟩,
                          ⟨some 145, some (144, false), .mv (.tmp 9)⟩,
                          ⟨some 146, some (144, false), .call n_echo_Echo_Hits [(.tmp 145)]⟩,
                          ⟨some 147, some (144, false), .mv (.tmp 14)⟩,
                          ⟨some 148, some (144, false), .bin .neq t_int (.tmp 146) (.tmp 147)⟩,
                          ⟨some 149, none, .pick (.tmp 144) (.const (.bool true)) (.tmp 148)⟩,
                          ⟨some 150, none, .mv (.tmp 149)⟩,
                          ⟨some 151, some (150, false), .mv (.tmp 9)⟩,
                          ⟨some 152, some (150, false), .call n_echo_Echo_Misses [(.tmp 151)]⟩,
                          ⟨some 153, some (150, false), .bin .neq t_int (.tmp 152) (.const (.int .i64 0))⟩,
                          ⟨some 154, none, .pick (.tmp 150) (.const (.bool true)) (.tmp 153)⟩,
                          ⟨some 155, none, .mv (.tmp 154)⟩,
                          ⟨some 156, some (155, false), .mv (.tmp 9)⟩,
                          ⟨some 157, some (155, false), .call n_echo_Echo_Guesses [(.tmp 156)]⟩,
                          ⟨some 158, some (155, false), .len (.tmp 157)⟩,
                          ⟨some 159, some (155, false), .mv (.tmp 15)⟩,
                          ⟨some 160, some (155, false), .bin .add t_int (.tmp 159) (.const (.int .i64 1))⟩,
                          ⟨some 161, some (155, false), .mv (.tmp 14)⟩,
                          ⟨some 162, some (155, false), .bin .sub t_int (.tmp 160) (.tmp 161)⟩,
                          ⟨some 163, some (155, false), .bin .neq t_int (.tmp 158) (.tmp 162)⟩,
                          ⟨some 164, none, .pick (.tmp 155) (.const (.bool true)) (.tmp 163)⟩])
                        (.cond (.tmp 164)
                         (.seq
                          (.ops [
                            ⟨some 6, none, .mv (.const (.bool false))⟩])
                          (.ret))
                         (.skip)))
                       (.seq
                        (.ops [
                          ⟨some 166, none, .mv (.tmp 9)⟩,
                          ⟨some 167, none, .call n_echo_Echo_Show [(.tmp 166)]⟩,
                          ⟨some 165, none, .mv (.tmp 167)⟩,
                          ⟨some 168, none, .ext (.tmp 165) 0⟩,
                          ⟨some 169, none, .ext (.tmp 165) 1⟩,
                          ⟨some 20, none, .new t_view_View [(.int .i64 0), (.int .i64 0), (.slice none 0 0), (.int .i64 0), (.int .i64 0), (.bool false)]⟩,
                          ⟨none, none, .store 6 (.tmp 20) (.tmp 168)⟩,
                          ⟨some 21, none, .mv (.tmp 169)⟩])
                        (.seq
                         (.plan [
                           (⟨some 170, none, .mv (.tmp 21)⟩, []),
                           (⟨some 171, none, .bin .neq t_api_Errno (.tmp 170) (.const (.int .i64 0))⟩, []),
                           (⟨some 172, none, .mv (.tmp 171)⟩, []),
                           (⟨some 173, some (172, false), .fld 4 (.tmp 20)⟩, []),
                           (⟨some 174, some (172, false), .load1 (.tmp 173)⟩, []),
                           (⟨some 175, some (172, false), .mv (.tmp 15)⟩, []),
                           (⟨some 176, some (172, false), .bin .add t_int (.tmp 175) (.const (.int .i64 1))⟩, []),
                           (⟨some 177, some (172, false), .bin .neq t_int (.tmp 174) (.tmp 176)⟩, []),
                           (⟨some 178, none, .pick (.tmp 172) (.const (.bool true)) (.tmp 177)⟩, []),
                           (⟨some 179, none, .mv (.tmp 178)⟩, []),
                           (⟨some 180, some (179, false), .fld 3 (.tmp 20)⟩, []),
                           (⟨some 181, some (179, false), .load1 (.tmp 180)⟩, []),
                           (⟨some 182, some (179, false), .bin .neq t_int (.tmp 181) (.const (.int .i64 0))⟩, []),
                           (⟨some 183, none, .pick (.tmp 179) (.const (.bool true)) (.tmp 182)⟩, []),
                           (⟨some 184, none, .mv (.tmp 183)⟩, []),
                           (⟨some 185, some (184, false), .fld 2 (.tmp 20)⟩, []),
                           (⟨some 186, some (184, false), .load1 (.tmp 185)⟩, []),
                           (⟨some 187, some (184, false), .len (.tmp 186)⟩, []),
                           (⟨some 188, some (184, false), .mv (.tmp 15)⟩, []),
                           (⟨some 189, some (184, false), .bin .leq t_int (.tmp 187) (.tmp 188)⟩, []),
                           (⟨some 190, none, .pick (.tmp 184) (.const (.bool true)) (.tmp 189)⟩, []),
                           (⟨some 191, none, .mv (.tmp 190)⟩, []),
                           (⟨some 192, some (191, false), .fld 2 (.tmp 20)⟩, []),
                           (⟨some 193, some (191, false), .load1 (.tmp 192)⟩, []),
                           (⟨some 194, some (191, false), .mv (.tmp 15)⟩, []),
                           (⟨some 195, some (191, false), .idxS 4 (.tmp 193) (.tmp 194)⟩, []),
                           (⟨some 196, some (191, false), .fld 0 (.tmp 195)⟩, []),
                           (⟨some 197, some (191, false), .load1 (.tmp 196)⟩, []),
                           (⟨some 198, some (191, false), .mv (.tmp 12)⟩, []),
                           (⟨some 199, some (191, false), .mv (.tmp 15)⟩, []),
                           (⟨some 200, some (191, false), .idxS 1 (.tmp 198) (.tmp 199)⟩, []),
                           (⟨some 201, some (191, false), .load1 (.tmp 200)⟩, []),
                           (⟨some 202, some (191, false), .gen (.convert t_uint8 t_int32 (.tmp 201)) t_int32⟩, []),
                           (⟨some 203, some (191, false), .bin .neq t_int32 (.tmp 197) (.tmp 202)⟩, []),
                           (⟨some 204, none, .pick (.tmp 191) (.const (.bool true)) (.tmp 203)⟩, [])])
                         (.cond (.tmp 204)
                          (.seq
                           (.ops [
                             ⟨some 6, none, .mv (.const (.bool false))⟩])
                           (.ret))
                          (.skip)))))))))))
                (.ops [
                  ⟨some 85, none, .mv (.tmp 15)⟩,
                  ⟨some 86, none, .bin .add t_int (.tmp 85) (.const (.int .i64 1))⟩,
                  ⟨some 15, none, .mv (.tmp 86)⟩]))))))
           (.seq
            (.ops [
              ⟨some 205, none, .call n_law35_alive []⟩,
              ⟨some 6, none, .mv (.tmp 205)⟩])
            (.ret)))))))))))),
 [.tmp 6]⟩

/-- longlinelaw22.RegOf -/
def a_law22_RegOf : AFn := ⟨173,
 (.seq
  (.ops [
    ⟨some 6, none, .mv (.const (.bool false))⟩])
  (.seq
   (.ops [
     ⟨some 19, none, .mv (.tmp 0)⟩,
     ⟨some 20, none, .mv (.tmp 1)⟩,
     ⟨some 21, none, .call n_term_New [(.tmp 19), (.tmp 20)]⟩,
     ⟨some 18, none, .mv (.tmp 21)⟩,
     ⟨some 22, none, .ext (.tmp 18) 0⟩,
     ⟨some 23, none, .ext (.tmp 18) 1⟩,
     ⟨some 7, none, .mv (.tmp 22)⟩,
     ⟨some 8, none, .mv (.tmp 23)⟩])
   (.seq
    (.seq
     (.ops [
       ⟨some 24, none, .mv (.tmp 8)⟩,
       ⟨some 25, none, .bin .neq t_api_Errno (.tmp 24) (.const (.int .i64 0))⟩,
       ⟨some 26, none, .mv (.tmp 25)⟩,
       ⟨some 27, some (26, false), .mv (.tmp 7)⟩,
       ⟨some 28, some (26, false), .bin .eql t_P_term_Term (.tmp 27) (.const (.pointer none))⟩,
       ⟨some 29, none, .pick (.tmp 26) (.const (.bool true)) (.tmp 28)⟩])
     (.cond (.tmp 29)
      (.seq
       (.ops [
         ⟨some 30, none, .call n_law22_alive []⟩,
         ⟨some 31, none, .mv (.tmp 30)⟩,
         ⟨some 32, some (31, true), .mv (.tmp 0)⟩,
         ⟨some 33, some (31, true), .mv (.tmp 1)⟩,
         ⟨some 34, some (31, true), .call n_law19_Fits [(.tmp 32), (.tmp 33)]⟩,
         ⟨some 35, some (31, true), .not (.tmp 34)⟩,
         ⟨some 36, none, .pick (.tmp 31) (.tmp 35) (.const (.bool false))⟩,
         ⟨some 6, none, .mv (.tmp 36)⟩])
       (.ret))
      (.skip)))
    (.seq
     (.seq
      (.ops [
        ⟨some 9, none, .mv (.const (.int .i64 0))⟩])
      (.block 0
       (.loop
        (.seq
         (.seq
          (.ops [
            ⟨some 37, none, .mv (.tmp 9)⟩,
            ⟨some 38, none, .mv (.tmp 2)⟩,
            ⟨some 39, none, .len (.tmp 38)⟩,
            ⟨some 40, none, .bin .lss t_int (.tmp 37) (.tmp 39)⟩,
            ⟨some 41, none, .mv (.tmp 40)⟩,
            ⟨some 42, some (41, true), .mv (.tmp 9)⟩,
            ⟨some 43, some (41, true), .bin .lss t_int (.tmp 42) (.const (.int .i64 12))⟩,
            ⟨some 44, none, .pick (.tmp 41) (.tmp 43) (.const (.bool false))⟩])
          (.cond (.tmp 44)
           (.skip)
           (.exit 0)))
         (.seq
          (.block 1
           (.seq
            (.seq
             (.ops [
               ⟨some 47, none, .mv (.tmp 2)⟩,
               ⟨some 48, none, .mv (.tmp 9)⟩,
               ⟨some 49, none, .idxS 3 (.tmp 47) (.tmp 48)⟩,
               ⟨some 50, none, .fld 0 (.tmp 49)⟩,
               ⟨some 51, none, .load1 (.tmp 50)⟩,
               ⟨some 52, none, .len (.tmp 51)⟩,
               ⟨some 53, none, .bin .gtr t_int (.tmp 52) (.const (.int .i64 400))⟩])
             (.cond (.tmp 53)
              (.seq
               (.ops [
                 ⟨some 54, none, .call n_law22_alive []⟩,
                 ⟨some 6, none, .mv (.tmp 54)⟩])
               (.ret))
              (.skip)))
            (.seq
             (.ops [
               ⟨some 55, none, .mv (.tmp 2)⟩,
               ⟨some 56, none, .mv (.tmp 9)⟩,
               ⟨some 57, none, .idxS 3 (.tmp 55) (.tmp 56)⟩,
               ⟨some 58, none, .fld 1 (.tmp 57)⟩,
               ⟨some 59, none, .load1 (.tmp 58)⟩,
               ⟨some 60, none, .bin .gtr t_int (.tmp 59) (.const (.int .i64 0))⟩])
             (.cond (.tmp 60)
              (.plan [
                (⟨some 61, none, .mv (.tmp 7)⟩, []),
                (⟨some 62, none, .mv (.tmp 2)⟩, []),
                (⟨some 63, none, .mv (.tmp 9)⟩, []),
                (⟨some 64, none, .idxS 3 (.tmp 62) (.tmp 63)⟩, []),
                (⟨some 65, none, .fld 1 (.tmp 64)⟩, []),
                (⟨some 66, none, .load1 (.tmp 65)⟩, []),
                (⟨some 67, none, .mv (.tmp 2)⟩, []),
                (⟨some 68, none, .mv (.tmp 9)⟩, []),
                (⟨some 69, none, .idxS 3 (.tmp 67) (.tmp 68)⟩, []),
                (⟨some 70, none, .fld 2 (.tmp 69)⟩, []),
                (⟨some 71, none, .load1 (.tmp 70)⟩, []),
                (⟨some 72, none, .call n_term_Term_Resize [(.tmp 61), (.tmp 66), (.tmp 71)]⟩, [])])
              (.ops [
                ⟨some 73, none, .mv (.tmp 7)⟩,
                ⟨some 74, none, .mv (.tmp 2)⟩,
                ⟨some 75, none, .mv (.tmp 9)⟩,
                ⟨some 76, none, .idxS 3 (.tmp 74) (.tmp 75)⟩,
                ⟨some 77, none, .fld 0 (.tmp 76)⟩,
                ⟨some 78, none, .load1 (.tmp 77)⟩,
                ⟨some 79, none, .call n_term_Term_Feed [(.tmp 73), (.tmp 78)]⟩])))))
          (.ops [
            ⟨some 45, none, .mv (.tmp 9)⟩,
            ⟨some 46, none, .bin .add t_int (.tmp 45) (.const (.int .i64 1))⟩,
            ⟨some 9, none, .mv (.tmp 46)⟩]))))))
     (.seq
      (.ops [
        ⟨some 81, none, .mv (.tmp 7)⟩,
        ⟨some 82, none, .call n_reg_Of [(.tmp 81)]⟩,
        ⟨some 80, none, .mv (.tmp 82)⟩,
        ⟨some 83, none, .ext (.tmp 80) 0⟩,
        ⟨some 84, none, .ext (.tmp 80) 1⟩,
        ⟨some 10, none, .new t_reg_State [(.int .i64 0), (.int .i64 0), (.slice none 0 0), (.int .i64 0), (.int .i64 0), (.bool false), (.string .empty), (.string .empty), (.int .u64 0), (.int .u64 0)]⟩,
        ⟨none, none, .store 10 (.tmp 10) (.tmp 83)⟩,
        ⟨some 11, none, .mv (.tmp 84)⟩])
      (.seq
       (.ops [
         ⟨some 86, none, .mv (.tmp 7)⟩,
         ⟨some 87, none, .call n_term_Term_Clip [(.tmp 86)]⟩,
         ⟨some 85, none, .mv (.tmp 87)⟩,
         ⟨some 88, none, .ext (.tmp 85) 0⟩,
         ⟨some 89, none, .ext (.tmp 85) 1⟩,
         ⟨some 12, none, .mv (.tmp 88)⟩,
         ⟨some 13, none, .mv (.tmp 89)⟩])
       (.seq
        (.ops [
          ⟨some 90, none, .mv (.tmp 7)⟩,
          ⟨some 91, none, .call n_term_Term_Grid [(.tmp 90)]⟩,
          ⟨some 14, none, .mv (.tmp 91)⟩])
        (.seq
         (.ops [
           ⟨some 93, none, .mv (.tmp 7)⟩,
           ⟨some 94, none, .call n_term_Term_Cursor [(.tmp 93)]⟩,
           ⟨some 92, none, .mv (.tmp 94)⟩,
           ⟨some 95, none, .ext (.tmp 92) 0⟩,
           ⟨some 96, none, .ext (.tmp 92) 1⟩,
           ⟨some 97, none, .ext (.tmp 92) 2⟩,
           ⟨some 15, none, .mv (.tmp 95)⟩,
           ⟨some 16, none, .mv (.tmp 96)⟩,
           ⟨some 17, none, .mv (.tmp 97)⟩])
         (.seq
          (.seq
           (.ops [
             ⟨some 98, none, .mv (.tmp 11)⟩,
             ⟨some 99, none, .bin .neq t_api_Errno (.tmp 98) (.const (.int .i64 0))⟩,
             ⟨some 100, none, .mv (.tmp 99)⟩,
             ⟨some 101, some (100, false), .mv (.tmp 14)⟩,
             ⟨some 102, some (100, false), .bin .eql t_P_grid_Grid (.tmp 101) (.const (.pointer none))⟩,
             ⟨some 103, none, .pick (.tmp 100) (.const (.bool true)) (.tmp 102)⟩,
             ⟨some 104, none, .mv (.tmp 103)⟩,
             ⟨some 105, some (104, false), .loadN 10 (.tmp 10)⟩,
             ⟨some 106, some (104, false), .call n_reg_Right [(.tmp 105)]⟩,
             ⟨some 107, some (104, false), .not (.tmp 106)⟩,
             ⟨some 108, none, .pick (.tmp 104) (.const (.bool true)) (.tmp 107)⟩])
           (.cond (.tmp 108)
            (.seq
             (.ops [
               ⟨some 6, none, .mv (.const (.bool false))⟩])
             (.ret))
            (.skip)))
          (.seq
           (.plan [
             (⟨some 109, none, .call n_law22_alive []⟩, []),
             (⟨some 110, none, .mv (.tmp 109)⟩, []),
             (⟨some 111, some (110, true), .fld 6 (.tmp 10)⟩, []),
             (⟨some 112, some (110, true), .load1 (.tmp 111)⟩, []),
             (⟨some 113, some (110, true), .mv (.tmp 7)⟩, []),
             (⟨some 114, some (110, true), .call n_term_Term_Title [(.tmp 113)]⟩, [⟨some 112, some (110, true), .load1 (.tmp 111)⟩]),
             (⟨some 115, some (110, true), .gen (.binOp .eql t_string (.tmp 112) (.tmp 114) t_string) t_bool⟩, []),
             (⟨some 116, none, .pick (.tmp 110) (.tmp 115) (.const (.bool false))⟩, []),
             (⟨some 117, none, .mv (.tmp 116)⟩, []),
             (⟨some 118, some (117, true), .fld 7 (.tmp 10)⟩, []),
             (⟨some 119, some (117, true), .load1 (.tmp 118)⟩, []),
             (⟨some 120, some (117, true), .mv (.tmp 12)⟩, []),
             (⟨some 121, some (117, true), .gen (.binOp .eql t_string (.tmp 119) (.tmp 120) t_string) t_bool⟩, []),
             (⟨some 122, none, .pick (.tmp 117) (.tmp 121) (.const (.bool false))⟩, []),
             (⟨some 123, none, .mv (.tmp 122)⟩, []),
             (⟨some 124, some (123, true), .fld 8 (.tmp 10)⟩, []),
             (⟨some 125, some (123, true), .load1 (.tmp 124)⟩, []),
             (⟨some 126, some (123, true), .mv (.tmp 13)⟩, []),
             (⟨some 127, some (123, true), .gen (.convert t_int t_uint64 (.tmp 126)) t_uint64⟩, []),
             (⟨some 128, some (123, true), .bin .eql t_uint64 (.tmp 125) (.tmp 127)⟩, []),
             (⟨some 129, none, .pick (.tmp 123) (.tmp 128) (.const (.bool false))⟩, []),
             (⟨some 130, none, .mv (.tmp 129)⟩, []),
             (⟨some 131, some (130, true), .fld 9 (.tmp 10)⟩, []),
             (⟨some 132, some (130, true), .load1 (.tmp 131)⟩, []),
             (⟨some 133, some (130, true), .mv (.tmp 7)⟩, []),
             (⟨some 134, some (130, true), .call n_term_Term_Bells [(.tmp 133)]⟩, [⟨some 132, some (130, true), .load1 (.tmp 131)⟩]),
             (⟨some 135, some (130, true), .gen (.convert t_int t_uint64 (.tmp 134)) t_uint64⟩, []),
             (⟨some 136, some (130, true), .bin .eql t_uint64 (.tmp 132) (.tmp 135)⟩, []),
             (⟨some 137, none, .pick (.tmp 130) (.tmp 136) (.const (.bool false))⟩, []),
             (⟨some 138, none, .mv (.tmp 137)⟩, []),
             (⟨some 139, some (138, true), .fld 0 (.tmp 10)⟩, []),
             (⟨some 140, some (138, true), .fld 0 (.tmp 139)⟩, []),
             (⟨some 141, some (138, true), .load1 (.tmp 140)⟩, []),
             (⟨some 142, some (138, true), .mv (.tmp 14)⟩, []),
             (⟨some 143, some (138, true), .call n_grid_Grid_Rows [(.tmp 142)]⟩, [⟨some 141, some (138, true), .load1 (.tmp 140)⟩]),
             (⟨some 144, some (138, true), .bin .eql t_int (.tmp 141) (.tmp 143)⟩, []),
             (⟨some 145, none, .pick (.tmp 138) (.tmp 144) (.const (.bool false))⟩, []),
             (⟨some 146, none, .mv (.tmp 145)⟩, []),
             (⟨some 147, some (146, true), .fld 0 (.tmp 10)⟩, []),
             (⟨some 148, some (146, true), .fld 3 (.tmp 147)⟩, []),
             (⟨some 149, some (146, true), .load1 (.tmp 148)⟩, []),
             (⟨some 150, some (146, true), .mv (.tmp 15)⟩, []),
             (⟨some 151, some (146, true), .bin .eql t_int (.tmp 149) (.tmp 150)⟩, []),
             (⟨some 152, none, .pick (.tmp 146) (.tmp 151) (.const (.bool false))⟩, []),
             (⟨some 153, none, .mv (.tmp 152)⟩, []),
             (⟨some 154, some (153, true), .fld 0 (.tmp 10)⟩, []),
             (⟨some 155, some (153, true), .fld 4 (.tmp 154)⟩, []),
             (⟨some 156, some (153, true), .load1 (.tmp 155)⟩, []),
             (⟨some 157, some (153, true), .mv (.tmp 16)⟩, []),
             (⟨some 158, some (153, true), .bin .eql t_int (.tmp 156) (.tmp 157)⟩, []),
             (⟨some 159, none, .pick (.tmp 153) (.tmp 158) (.const (.bool false))⟩, []),
             (⟨some 160, none, .mv (.tmp 159)⟩, []),
             (⟨some 161, some (160, true), .fld 0 (.tmp 10)⟩, []),
             (⟨some 162, some (160, true), .fld 5 (.tmp 161)⟩, []),
             (⟨some 163, some (160, true), .load1 (.tmp 162)⟩, []),
             (⟨some 164, some (160, true), .mv (.tmp 17)⟩, []),
             (⟨some 165, some (160, true), .gen (.binOp .eql t_bool (.tmp 163) (.tmp 164) t_bool) t_bool⟩, []),
             (⟨some 166, none, .pick (.tmp 160) (.tmp 165) (.const (.bool false))⟩, []),
             (⟨some 167, none, .mv (.tmp 166)⟩, []),
             (⟨some 168, some (167, true), .fld 0 (.tmp 10)⟩, []),
             (⟨some 169, some (167, true), .loadN 6 (.tmp 168)⟩, []),
             (⟨some 170, some (167, true), .call n_law20_As [(.tmp 169)]⟩, []),
             (⟨some 171, some (167, true), .call n_ref20_Right [(.tmp 170)]⟩, []),
             (⟨some 172, none, .pick (.tmp 167) (.tmp 171) (.const (.bool false))⟩, []),
             (⟨some 6, none, .mv (.tmp 172)⟩, [])])
           (.ret))))))))))),
 [.tmp 6]⟩

/-- term.New -/
def a_term_New : AFn := ⟨36,
 (.seq
  (.ops [
    ⟨some 4, none, .mv (.const (.pointer none))⟩,
    ⟨some 5, none, .mv (.const (.int .i64 0))⟩])
  (.seq
   (.ops [
     ⟨some 10, none, .call n_utf_New []⟩,
     ⟨some 11, none, .call n_ansi_New []⟩,
     ⟨some 12, none, .gen (.build t_term_Term #[(0, (.tmp 10)), (1, (.tmp 11))]) t_term_Term⟩,
     ⟨some 13, none, .box t_term_Term (.tmp 12)⟩,
     ⟨some 6, none, .mv (.tmp 13)⟩])
   (.seq
    (.seq
     (.ops [
       ⟨some 14, none, .mv (.const (.int .i64 0))⟩])
     (.block 0
      (.loop
       (.seq
        (.ops [
          ⟨some 15, none, .bin .lss t_int (.tmp 14) (.const (.int .i64 2))⟩])
        (.seq
         (.cond (.tmp 15)
          (.skip)
          (.exit 0))
         (.seq
          (.block 1
           (.seq
            (.ops [
              ⟨some 16, none, .mv (.tmp 14)⟩,
              ⟨some 7, none, .mv (.tmp 16)⟩])
            (.seq
             (.ops [
               ⟨some 18, none, .mv (.tmp 0)⟩,
               ⟨some 19, none, .mv (.tmp 1)⟩,
               ⟨some 20, none, .call n_grid_New [(.tmp 18), (.tmp 19)]⟩,
               ⟨some 17, none, .mv (.tmp 20)⟩,
               ⟨some 21, none, .ext (.tmp 17) 0⟩,
               ⟨some 22, none, .ext (.tmp 17) 1⟩,
               ⟨some 8, none, .mv (.tmp 21)⟩,
               ⟨some 9, none, .mv (.tmp 22)⟩])
             (.seq
              (.seq
               (.ops [
                 ⟨some 23, none, .mv (.tmp 9)⟩,
                 ⟨some 24, none, .bin .neq t_api_Errno (.tmp 23) (.const (.int .i64 0))⟩])
               (.cond (.tmp 24)
                (.seq
                 (.ops [
                   ⟨some 25, none, .mv (.tmp 9)⟩,
                   ⟨some 4, none, .mv (.const (.pointer none))⟩,
                   ⟨some 5, none, .mv (.tmp 25)⟩])
                 (.ret))
                (.skip)))
              (.ops [
                ⟨some 26, none, .mv (.tmp 6)⟩,
                ⟨some 27, none, .mv (.tmp 7)⟩,
                ⟨some 28, none, .mv (.tmp 8)⟩,
                ⟨some 29, none, .nil (.tmp 26)⟩,
                ⟨some 30, none, .fld 2 (.tmp 29)⟩,
                ⟨some 31, none, .idxA 2 1 (.tmp 30) (.tmp 27)⟩,
                ⟨none, none, .store 1 (.tmp 31) (.tmp 28)⟩])))))
          (.ops [
            ⟨some 32, none, .bin .add t_int (.tmp 14) (.const (.int .i64 1))⟩,
            ⟨some 14, none, .mv (.tmp 32)⟩])))))))
    (.seq
     (.ops [
       ⟨some 33, none, .mv (.tmp 6)⟩,
       ⟨some 34, none, .call n_term_Term_reset [(.tmp 33)]⟩])
     (.seq
      (.ops [
        ⟨some 35, none, .mv (.tmp 6)⟩,
        ⟨some 4, none, .mv (.tmp 35)⟩,
        ⟨some 5, none, .mv (.const (.int .i64 0))⟩])
      (.ret)))))),
 [.tmp 4, .tmp 5]⟩

/-- longlinelaw35.alive -/
def a_law35_alive : AFn := ⟨94,
 (.seq
  (.ops [
    ⟨some 0, none, .mv (.const (.bool false))⟩])
  (.seq
   (.ops [
     ⟨some 8, none, .call n_echo_New []⟩,
     ⟨some 1, none, .mv (.tmp 8)⟩])
   (.seq
    (.seq
     (.ops [
       ⟨some 9, none, .call n_reg_First []⟩,
       ⟨some 10, none, .gen (.field t_reg_State (.tmp 9) 0) t_view_View⟩,
       ⟨some 11, none, .gen (.field t_view_View (.tmp 10) 2) t_S_grid_Cell⟩,
       ⟨some 12, none, .len (.tmp 11)⟩,
       ⟨some 13, none, .bin .neq t_int (.tmp 12) (.const (.int .i64 1))⟩])
     (.cond (.tmp 13)
      (.seq
       (.ops [
         ⟨some 0, none, .mv (.const (.bool false))⟩])
       (.ret))
      (.skip)))
    (.seq
     (.ops [
       ⟨some 14, none, .mv (.tmp 1)⟩,
       ⟨some 15, none, .call n_law35_wide [(.const (.string .empty))]⟩,
       ⟨some 16, none, .call n_echo_Echo_See [(.tmp 14), (.tmp 15), (.const (.int .u64 0))]⟩,
       ⟨some 2, none, .mv (.tmp 16)⟩])
     (.seq
      (.ops [
        ⟨some 17, none, .mv (.tmp 1)⟩,
        ⟨some 18, none, .gen (.buildSlice t_S_uint8 2 #[(0, (.const (.int .u8 97))), (1, (.const (.int .u8 98)))]) t_S_uint8⟩,
        ⟨some 19, none, .gen (.convert t_S_uint8 t_S_uint8 (.tmp 18)) t_S_uint8⟩,
        ⟨some 20, none, .call n_echo_Echo_Type [(.tmp 17), (.tmp 19)]⟩,
        ⟨some 3, none, .mv (.tmp 20)⟩])
      (.seq
       (.ops [
         ⟨some 22, none, .mv (.tmp 1)⟩,
         ⟨some 23, none, .call n_echo_Echo_Show [(.tmp 22)]⟩,
         ⟨some 21, none, .mv (.tmp 23)⟩,
         ⟨some 24, none, .ext (.tmp 21) 0⟩,
         ⟨some 25, none, .ext (.tmp 21) 1⟩,
         ⟨some 4, none, .new t_view_View [(.int .i64 0), (.int .i64 0), (.slice none 0 0), (.int .i64 0), (.int .i64 0), (.bool false)]⟩,
         ⟨none, none, .store 6 (.tmp 4) (.tmp 24)⟩,
         ⟨some 5, none, .mv (.tmp 25)⟩])
       (.seq
        (.ops [
          ⟨some 26, none, .mv (.tmp 1)⟩,
          ⟨some 27, none, .call n_echo_Echo_Guesses [(.tmp 26)]⟩,
          ⟨some 28, none, .len (.tmp 27)⟩,
          ⟨some 6, none, .mv (.tmp 28)⟩])
        (.seq
         (.ops [
           ⟨some 29, none, .mv (.tmp 1)⟩,
           ⟨some 30, none, .call n_law35_wide [(.const (.string ⟨#[97]⟩))]⟩,
           ⟨some 31, none, .call n_echo_Echo_See [(.tmp 29), (.tmp 30), (.const (.int .u64 1))]⟩,
           ⟨some 7, none, .mv (.tmp 31)⟩])
         (.seq
          (.ops [
            ⟨some 32, none, .mv (.tmp 2)⟩,
            ⟨some 33, none, .bin .eql t_api_Errno (.tmp 32) (.const (.int .i64 0))⟩,
            ⟨some 34, none, .mv (.tmp 33)⟩,
            ⟨some 35, some (34, true), .mv (.tmp 3)⟩,
            ⟨some 36, some (34, true), .bin .eql t_api_Errno (.tmp 35) (.const (.int .i64 0))⟩,
            ⟨some 37, none, .pick (.tmp 34) (.tmp 36) (.const (.bool false))⟩,
            ⟨some 38, none, .mv (.tmp 37)⟩,
            ⟨some 39, some (38, true), .mv (.tmp 5)⟩,
            ⟨some 40, some (38, true), .bin .eql t_api_Errno (.tmp 39) (.const (.int .i64 0))⟩,
            ⟨some 41, none, .pick (.tmp 38) (.tmp 40) (.const (.bool false))⟩,
            ⟨some 42, none, .mv (.tmp 41)⟩,
            ⟨some 43, some (42, true), .mv (.tmp 6)⟩,
            ⟨some 44, some (42, true), .bin .eql t_int (.tmp 43) (.const (.int .i64 2))⟩,
            ⟨some 45, none, .pick (.tmp 42) (.tmp 44) (.const (.bool false))⟩,
            ⟨some 46, none, .mv (.tmp 45)⟩,
            ⟨some 47, some (46, true), .fld 2 (.tmp 4)⟩,
            ⟨some 48, some (46, true), .load1 (.tmp 47)⟩,
            ⟨some 49, some (46, true), .len (.tmp 48)⟩,
            ⟨some 50, some (46, true), .bin .eql t_int (.tmp 49) (.const (.int .i64 5))⟩,
            ⟨some 51, none, .pick (.tmp 46) (.tmp 50) (.const (.bool false))⟩,
            ⟨some 52, none, .mv (.tmp 51)⟩,
            ⟨some 53, some (52, true), .fld 2 (.tmp 4)⟩,
            ⟨some 54, some (52, true), .load1 (.tmp 53)⟩,
            ⟨some 55, some (52, true), .idxS 4 (.tmp 54) (.const (.int .i64 1))⟩,
            ⟨some 56, some (52, true), .fld 0 (.tmp 55)⟩,
            ⟨some 57, some (52, true), .load1 (.tmp 56)⟩,
            ⟨some 58, some (52, true), .bin .eql t_int32 (.tmp 57) (.const (.int .i32 98))⟩,
            ⟨some 59, none, .pick (.tmp 52) (.tmp 58) (.const (.bool false))⟩,
            ⟨some 60, none, .mv (.tmp 59)⟩,
            ⟨some 61, some (60, true), .fld 2 (.tmp 4)⟩,
            ⟨some 62, some (60, true), .load1 (.tmp 61)⟩,
            ⟨some 63, some (60, true), .idxS 4 (.tmp 62) (.const (.int .i64 1))⟩,
            ⟨some 64, some (60, true), .fld 1 (.tmp 63)⟩,
            ⟨some 65, some (60, true), .fld 0 (.tmp 64)⟩,
            ⟨some 66, some (60, true), .load1 (.tmp 65)⟩,
            ⟨some 67, some (60, true), .bin .eql t_uint8 (.tmp 66) (.const (.int .u8 8))⟩,
            ⟨some 68, none, .pick (.tmp 60) (.tmp 67) (.const (.bool false))⟩,
            ⟨some 69, none, .mv (.tmp 68)⟩,
            ⟨some 70, some (69, true), .fld 4 (.tmp 4)⟩,
            ⟨some 71, some (69, true), .load1 (.tmp 70)⟩,
            ⟨some 72, some (69, true), .bin .eql t_int (.tmp 71) (.const (.int .i64 2))⟩,
            ⟨some 73, none, .pick (.tmp 69) (.tmp 72) (.const (.bool false))⟩,
            ⟨some 74, none, .mv (.tmp 73)⟩,
            ⟨some 75, some (74, true), .mv (.tmp 7)⟩,
            ⟨some 76, some (74, true), .bin .eql t_api_Errno (.tmp 75) (.const (.int .i64 0))⟩,
            ⟨some 77, none, .pick (.tmp 74) (.tmp 76) (.const (.bool false))⟩,
            ⟨some 78, none, .mv (.tmp 77)⟩,
            ⟨some 79, some (78, true), .mv (.tmp 1)⟩,
            ⟨some 80, some (78, true), .call n_echo_Echo_Hits [(.tmp 79)]⟩,
            ⟨some 81, some (78, true), .bin .eql t_int (.tmp 80) (.const (.int .i64 1))⟩,
            ⟨some 82, none, .pick (.tmp 78) (.tmp 81) (.const (.bool false))⟩,
            ⟨some 83, none, .mv (.tmp 82)⟩,
            ⟨some 84, some (83, true), .mv (.tmp 1)⟩,
            ⟨some 85, some (83, true), .call n_echo_Echo_Guesses [(.tmp 84)]⟩,
            ⟨some 86, some (83, true), .len (.tmp 85)⟩,
            ⟨some 87, some (83, true), .bin .eql t_int (.tmp 86) (.const (.int .i64 1))⟩,
            ⟨some 88, none, .pick (.tmp 83) (.tmp 87) (.const (.bool false))⟩,
            ⟨some 89, none, .mv (.tmp 88)⟩,
            ⟨some 90, some (89, true), .mv (.tmp 1)⟩,
            ⟨some 91, some (89, true), .call n_echo_Echo_Misses [(.tmp 90)]⟩,
            ⟨some 92, some (89, true), .bin .eql t_int (.tmp 91) (.const (.int .i64 0))⟩,
            ⟨some 93, none, .pick (.tmp 89) (.tmp 92) (.const (.bool false))⟩,
            ⟨some 0, none, .mv (.tmp 93)⟩])
          (.ret)))))))))),
 [.tmp 0]⟩

/-- echo.New -/
def a_echo_New : AFn := ⟨8,
 (.seq
  (.ops [
    ⟨some 0, none, .mv (.const (.pointer none))⟩])
  (.seq
   (.ops [
     ⟨some 2, none, .call n_reg_First []⟩,
     ⟨some 3, none, .gen (.build t_echo_Echo #[(0, (.const (.bool true))), (1, (.tmp 2))]) t_echo_Echo⟩,
     ⟨some 4, none, .box t_echo_Echo (.tmp 3)⟩,
     ⟨some 1, none, .mv (.tmp 4)⟩])
   (.seq
    (.ops [
      ⟨some 5, none, .mv (.tmp 1)⟩,
      ⟨some 6, none, .call n_echo_Echo_rest [(.tmp 5)]⟩])
    (.seq
     (.ops [
       ⟨some 7, none, .mv (.tmp 1)⟩,
       ⟨some 0, none, .mv (.tmp 7)⟩])
     (.ret))))),
 [.tmp 0]⟩

/-- reg.Of -/
def a_reg_Of : AFn := ⟨32,
 (.seq
  (.ops [
    ⟨some 2, none, .new t_reg_State [(.int .i64 0), (.int .i64 0), (.slice none 0 0), (.int .i64 0), (.int .i64 0), (.bool false), (.string .empty), (.string .empty), (.int .u64 0), (.int .u64 0)]⟩,
    ⟨some 3, none, .mv (.const (.int .i64 0))⟩])
  (.seq
   (.ops [
     ⟨some 9, none, .mv (.tmp 0)⟩,
     ⟨some 10, none, .call n_view_Of [(.tmp 9)]⟩,
     ⟨some 8, none, .mv (.tmp 10)⟩,
     ⟨some 11, none, .ext (.tmp 8) 0⟩,
     ⟨some 12, none, .ext (.tmp 8) 1⟩,
     ⟨some 4, none, .new t_view_View [(.int .i64 0), (.int .i64 0), (.slice none 0 0), (.int .i64 0), (.int .i64 0), (.bool false)]⟩,
     ⟨none, none, .store 6 (.tmp 4) (.tmp 11)⟩,
     ⟨some 5, none, .mv (.tmp 12)⟩])
   (.seq
    (.seq
     (.ops [
       ⟨some 13, none, .mv (.tmp 5)⟩,
       ⟨some 14, none, .bin .neq t_api_Errno (.tmp 13) (.const (.int .i64 0))⟩])
     (.cond (.tmp 14)
      (.seq
       (.ops [
         ⟨some 15, none, .gen (.build t_reg_State #[]) t_reg_State⟩,
         ⟨some 16, none, .mv (.tmp 5)⟩,
         ⟨none, none, .store 10 (.tmp 2) (.tmp 15)⟩,
         ⟨some 3, none, .mv (.tmp 16)⟩])
       (.ret))
      (.skip)))
    (.seq
     (.ops [
       ⟨some 18, none, .mv (.tmp 0)⟩,
       ⟨some 19, none, .call n_term_Term_Clip [(.tmp 18)]⟩,
       ⟨some 17, none, .mv (.tmp 19)⟩,
       ⟨some 20, none, .ext (.tmp 17) 0⟩,
       ⟨some 21, none, .ext (.tmp 17) 1⟩,
       ⟨some 6, none, .mv (.tmp 20)⟩,
       ⟨some 7, none, .mv (.tmp 21)⟩])
     (.seq
      (.plan [
        (⟨some 22, none, .loadN 6 (.tmp 4)⟩, []),
        (⟨some 23, none, .mv (.tmp 0)⟩, []),
        (⟨some 25, none, .mv (.tmp 6)⟩, []),
        (⟨some 26, none, .mv (.tmp 7)⟩, []),
        (⟨some 27, none, .gen (.convert t_int t_uint64 (.tmp 26)) t_uint64⟩, []),
        (⟨some 28, none, .mv (.tmp 0)⟩, []),
        (⟨some 24, none, .call n_term_Term_Title [(.tmp 23)]⟩, [⟨some 22, none, .loadN 6 (.tmp 4)⟩]),
        (⟨some 29, none, .call n_term_Term_Bells [(.tmp 28)]⟩, [⟨some 22, none, .loadN 6 (.tmp 4)⟩]),
        (⟨some 30, none, .gen (.convert t_int t_uint64 (.tmp 29)) t_uint64⟩, []),
        (⟨some 31, none, .gen (.build t_reg_State #[(0, (.tmp 22)), (1, (.tmp 24)), (2, (.tmp 25)), (3, (.tmp 27)), (4, (.tmp 30))]) t_reg_State⟩, []),
        (⟨none, none, .store 10 (.tmp 2) (.tmp 31)⟩, []),
        (⟨some 3, none, .mv (.const (.int .i64 0))⟩, [])])
      (.ret)))))),
 [.cell 2 t_reg_State, .tmp 3]⟩

/-- (*echo.Echo).See -/
def a_echo_Echo_See : AFn := ⟨99,
 (.seq
  (.ops [
    ⟨some 4, none, .box t_reg_State (.tmp 1)⟩,
    ⟨some 6, none, .mv (.const (.int .i64 0))⟩])
  (.seq
   (.block 0
    (.seq
     (.ops [
       ⟨some 8, none, .mv (.tmp 0)⟩,
       ⟨some 9, none, .call n_echo_Echo_is [(.tmp 8)]⟩,
       ⟨some 10, none, .not (.tmp 9)⟩,
       ⟨some 7, none, .mv (.tmp 10)⟩])
     (.cond (.tmp 7)
      (.seq
       (.ops [
         ⟨some 6, none, .mv (.const (.int .i64 6))⟩])
       (.ret))
      (.seq
       (.ops [
         ⟨some 12, none, .loadN 10 (.tmp 4)⟩,
         ⟨some 13, none, .call n_reg_Right [(.tmp 12)]⟩,
         ⟨some 14, none, .not (.tmp 13)⟩,
         ⟨some 11, none, .mv (.tmp 14)⟩])
       (.cond (.tmp 11)
        (.seq
         (.ops [
           ⟨some 6, none, .mv (.const (.int .i64 3))⟩])
         (.ret))
        (.skip))))))
   (.seq
    (.ops [
      ⟨some 15, none, .fld 0 (.tmp 4)⟩,
      ⟨some 16, none, .fld 2 (.tmp 15)⟩,
      ⟨some 17, none, .load1 (.tmp 16)⟩,
      ⟨some 18, none, .call n_slices_Clone_grid_Cell_grid_Cell [(.tmp 17)]⟩,
      ⟨some 19, none, .fld 0 (.tmp 4)⟩,
      ⟨some 20, none, .fld 2 (.tmp 19)⟩,
      ⟨none, none, .store 1 (.tmp 20) (.tmp 18)⟩])
    (.seq
     (.ops [
       ⟨some 21, none, .mv (.tmp 0)⟩,
       ⟨some 22, none, .loadN 10 (.tmp 4)⟩,
       ⟨some 23, none, .nil (.tmp 21)⟩,
       ⟨some 24, none, .fld 1 (.tmp 23)⟩,
       ⟨none, none, .store 10 (.tmp 24) (.tmp 22)⟩])
     (.seq
      (.skip)
      (.seq
       (.block 1
        (.loop
         (.seq
          (.seq
           (.ops [
             ⟨some 25, none, .mv (.tmp 0)⟩,
             ⟨some 26, none, .nil (.tmp 25)⟩,
             ⟨some 27, none, .fld 11 (.tmp 26)⟩,
             ⟨some 28, none, .load1 (.tmp 27)⟩,
             ⟨some 29, none, .len (.tmp 28)⟩,
             ⟨some 30, none, .bin .gtr t_int (.tmp 29) (.const (.int .i64 0))⟩,
             ⟨some 31, none, .mv (.tmp 30)⟩,
             ⟨some 32, some (31, true), .mv (.tmp 0)⟩,
             ⟨some 33, some (31, true), .nil (.tmp 32)⟩,
             ⟨some 34, some (31, true), .fld 11 (.tmp 33)⟩,
             ⟨some 35, some (31, true), .load1 (.tmp 34)⟩,
             ⟨some 36, some (31, true), .idxS 4 (.tmp 35) (.const (.int .i64 0))⟩,
             ⟨some 37, some (31, true), .fld 0 (.tmp 36)⟩,
             ⟨some 38, some (31, true), .load1 (.tmp 37)⟩,
             ⟨some 39, some (31, true), .mv (.tmp 2)⟩,
             ⟨some 40, some (31, true), .bin .lss t_uint64 (.tmp 38) (.tmp 39)⟩,
             ⟨some 41, none, .pick (.tmp 31) (.tmp 40) (.const (.bool false))⟩])
           (.cond (.tmp 41)
            (.skip)
            (.exit 1)))
          (.block 2
           (.seq
            (.seq
             (.ops [
               ⟨some 42, none, .mv (.tmp 0)⟩,
               ⟨some 43, none, .mv (.tmp 0)⟩,
               ⟨some 44, none, .nil (.tmp 43)⟩,
               ⟨some 45, none, .fld 11 (.tmp 44)⟩,
               ⟨some 46, none, .load1 (.tmp 45)⟩,
               ⟨some 47, none, .idxS 4 (.tmp 46) (.const (.int .i64 0))⟩,
               ⟨some 48, none, .loadN 4 (.tmp 47)⟩,
               ⟨some 49, none, .call n_echo_Echo_right [(.tmp 42), (.tmp 48)]⟩,
               ⟨some 50, none, .not (.tmp 49)⟩])
             (.cond (.tmp 50)
              (.seq
               (.ops [
                 ⟨some 51, none, .mv (.tmp 0)⟩,
                 ⟨some 52, none, .nil (.tmp 51)⟩,
                 ⟨some 53, none, .fld 17 (.tmp 52)⟩,
                 ⟨some 54, none, .load1 (.tmp 53)⟩,
                 ⟨some 55, none, .bin .add t_int (.tmp 54) (.const (.int .i64 1))⟩,
                 ⟨some 56, none, .nil (.tmp 51)⟩,
                 ⟨some 57, none, .fld 17 (.tmp 56)⟩,
                 ⟨none, none, .store 1 (.tmp 57) (.tmp 55)⟩])
               (.seq
                (.ops [
                  ⟨some 58, none, .mv (.tmp 0)⟩,
                  ⟨some 59, none, .call n_echo_Echo_giveUp [(.tmp 58)]⟩])
                (.exit 1)))
              (.skip)))
            (.seq
             (.ops [
               ⟨some 60, none, .mv (.tmp 0)⟩,
               ⟨some 61, none, .nil (.tmp 60)⟩,
               ⟨some 62, none, .fld 16 (.tmp 61)⟩,
               ⟨some 63, none, .load1 (.tmp 62)⟩,
               ⟨some 64, none, .bin .add t_int (.tmp 63) (.const (.int .i64 1))⟩,
               ⟨some 65, none, .nil (.tmp 60)⟩,
               ⟨some 66, none, .fld 16 (.tmp 65)⟩,
               ⟨none, none, .store 1 (.tmp 66) (.tmp 64)⟩])
             (.ops [
               ⟨some 67, none, .mv (.tmp 0)⟩,
               ⟨some 68, none, .mv (.tmp 0)⟩,
               ⟨some 69, none, .nil (.tmp 68)⟩,
               ⟨some 70, none, .fld 11 (.tmp 69)⟩,
               ⟨some 71, none, .load1 (.tmp 70)⟩,
               ⟨some 72, none, .gen (.slice t_S_echo_Guess (.tmp 71) (some (.const (.int .i64 1))) none none) t_S_echo_Guess⟩,
               ⟨some 73, none, .call n_slices_Clone_echo_Guess_echo_Guess [(.tmp 72)]⟩,
               ⟨some 74, none, .nil (.tmp 67)⟩,
               ⟨some 75, none, .fld 11 (.tmp 74)⟩,
               ⟨none, none, .store 1 (.tmp 75) (.tmp 73)⟩])))))))
       (.seq
        (.seq
         (.ops [
           ⟨some 76, none, .mv (.tmp 0)⟩,
           ⟨some 77, none, .nil (.tmp 76)⟩,
           ⟨some 78, none, .fld 11 (.tmp 77)⟩,
           ⟨some 79, none, .load1 (.tmp 78)⟩,
           ⟨some 80, none, .len (.tmp 79)⟩,
           ⟨some 81, none, .bin .eql t_int (.tmp 80) (.const (.int .i64 0))⟩])
         (.cond (.tmp 81)
          (.ops [
            ⟨some 82, none, .mv (.tmp 0)⟩,
            ⟨some 83, none, .call n_echo_Echo_rest [(.tmp 82)]⟩])
          (.skip)))
        (.seq
         (.ops [
           ⟨some 84, none, .mv (.tmp 0)⟩,
           ⟨some 85, none, .mv (.tmp 0)⟩,
           ⟨some 86, none, .nil (.tmp 85)⟩,
           ⟨some 87, none, .fld 14 (.tmp 86)⟩,
           ⟨some 88, none, .load1 (.tmp 87)⟩,
           ⟨some 89, none, .mv (.tmp 88)⟩,
           ⟨some 90, some (89, true), .mv (.tmp 0)⟩,
           ⟨some 91, some (89, true), .nil (.tmp 90)⟩,
           ⟨some 92, some (89, true), .fld 15 (.tmp 91)⟩,
           ⟨some 93, some (89, true), .load1 (.tmp 92)⟩,
           ⟨some 94, some (89, true), .mv (.tmp 2)⟩,
           ⟨some 95, some (89, true), .bin .gtr t_uint64 (.tmp 93) (.tmp 94)⟩,
           ⟨some 96, none, .pick (.tmp 89) (.tmp 95) (.const (.bool false))⟩,
           ⟨some 97, none, .nil (.tmp 84)⟩,
           ⟨some 98, none, .fld 14 (.tmp 97)⟩,
           ⟨none, none, .store 1 (.tmp 98) (.tmp 96)⟩])
         (.seq
          (.ops [
            ⟨some 6, none, .mv (.const (.int .i64 0))⟩])
          (.ret)))))))))),
 [.tmp 6]⟩

/-- (*echo.Echo).Type -/
def a_echo_Echo_Type : AFn := ⟨56,
 (.seq
  (.ops [
    ⟨some 4, none, .mv (.const (.int .i64 0))⟩])
  (.seq
   (.seq
    (.ops [
      ⟨some 7, none, .mv (.tmp 0)⟩,
      ⟨some 8, none, .call n_echo_Echo_is [(.tmp 7)]⟩,
      ⟨some 9, none, .not (.tmp 8)⟩])
    (.cond (.tmp 9)
     (.seq
      (.ops [
        ⟨some 4, none, .mv (.const (.int .i64 6))⟩])
      (.ret))
     (.skip)))
   (.seq
    (.skip)
    (.seq
     (.seq
      (.ops [
        ⟨some 10, none, .mv (.tmp 1)⟩,
        ⟨some 11, none, .len (.tmp 10)⟩,
        ⟨some 12, none, .mv (.const (.int .i64 0))⟩])
      (.block 0
       (.loop
        (.seq
         (.ops [
           ⟨some 13, none, .bin .lss t_int (.tmp 12) (.tmp 11)⟩])
         (.seq
          (.cond (.tmp 13)
           (.skip)
           (.exit 0))
          (.seq
           (.block 1
            (.seq
             (.ops [
               ⟨some 14, none, .idxS 1 (.tmp 10) (.tmp 12)⟩,
               ⟨some 15, none, .load1 (.tmp 14)⟩,
               ⟨some 6, none, .mv (.tmp 15)⟩])
             (.seq
              (.seq
               (.ops [
                 ⟨some 16, none, .mv (.tmp 0)⟩,
                 ⟨some 17, none, .nil (.tmp 16)⟩,
                 ⟨some 18, none, .fld 14 (.tmp 17)⟩,
                 ⟨some 19, none, .load1 (.tmp 18)⟩])
               (.cond (.tmp 19)
                (.seq
                 (.ops [
                   ⟨some 20, none, .mv (.tmp 0)⟩,
                   ⟨some 21, none, .nil (.tmp 20)⟩,
                   ⟨some 22, none, .fld 15 (.tmp 21)⟩,
                   ⟨some 23, none, .load1 (.tmp 22)⟩,
                   ⟨some 24, none, .bin .add t_uint64 (.tmp 23) (.const (.int .u64 1))⟩,
                   ⟨some 25, none, .nil (.tmp 20)⟩,
                   ⟨some 26, none, .fld 15 (.tmp 25)⟩,
                   ⟨none, none, .store 1 (.tmp 26) (.tmp 24)⟩])
                 (.exit 1))
                (.skip)))
              (.seq
               (.block 2
                (.seq
                 (.ops [
                   ⟨some 30, none, .mv (.tmp 6)⟩,
                   ⟨some 31, none, .bin .geq t_uint8 (.tmp 30) (.const (.int .u8 32))⟩,
                   ⟨some 32, none, .mv (.tmp 31)⟩,
                   ⟨some 33, some (32, true), .mv (.tmp 6)⟩,
                   ⟨some 34, some (32, true), .bin .leq t_uint8 (.tmp 33) (.const (.int .u8 126))⟩,
                   ⟨some 35, none, .pick (.tmp 32) (.tmp 34) (.const (.bool false))⟩,
                   ⟨some 29, none, .mv (.tmp 35)⟩])
                 (.cond (.tmp 29)
                  (.ops [
                    ⟨some 36, none, .mv (.tmp 0)⟩,
                    ⟨some 37, none, .mv (.tmp 6)⟩,
                    ⟨some 38, none, .call n_echo_Echo_print [(.tmp 36), (.tmp 37)]⟩])
                  (.seq
                   (.ops [
                     ⟨some 40, none, .mv (.tmp 6)⟩,
                     ⟨some 41, none, .bin .eql t_uint8 (.tmp 40) (.const (.int .u8 8))⟩,
                     ⟨some 42, none, .mv (.tmp 41)⟩,
                     ⟨some 43, some (42, false), .mv (.tmp 6)⟩,
                     ⟨some 44, some (42, false), .bin .eql t_uint8 (.tmp 43) (.const (.int .u8 127))⟩,
                     ⟨some 45, none, .pick (.tmp 42) (.const (.bool true)) (.tmp 44)⟩,
                     ⟨some 39, none, .mv (.tmp 45)⟩])
                   (.cond (.tmp 39)
                    (.ops [
                      ⟨some 46, none, .mv (.tmp 0)⟩,
                      ⟨some 47, none, .call n_echo_Echo_rub [(.tmp 46)]⟩])
                    (.ops [
                      ⟨some 27, none, .mv (.tmp 0)⟩,
                      ⟨some 28, none, .call n_echo_Echo_giveUp [(.tmp 27)]⟩]))))))
               (.ops [
                 ⟨some 48, none, .mv (.tmp 0)⟩,
                 ⟨some 49, none, .nil (.tmp 48)⟩,
                 ⟨some 50, none, .fld 15 (.tmp 49)⟩,
                 ⟨some 51, none, .load1 (.tmp 50)⟩,
                 ⟨some 52, none, .bin .add t_uint64 (.tmp 51) (.const (.int .u64 1))⟩,
                 ⟨some 53, none, .nil (.tmp 48)⟩,
                 ⟨some 54, none, .fld 15 (.tmp 53)⟩,
                 ⟨none, none, .store 1 (.tmp 54) (.tmp 52)⟩])))))
           (.ops [
             ⟨some 55, none, .bin .add t_int (.tmp 12) (.const (.int .i64 1))⟩,
             ⟨some 12, none, .mv (.tmp 55)⟩])))))))
     (.seq
      (.ops [
        ⟨some 4, none, .mv (.const (.int .i64 0))⟩])
      (.ret)))))),
 [.tmp 4]⟩

/-- (*echo.Echo).Quiet -/
def a_echo_Echo_Quiet : AFn := ⟨11,
 (.seq
  (.ops [
    ⟨some 2, none, .mv (.const (.bool false))⟩])
  (.seq
   (.ops [
     ⟨some 3, none, .mv (.tmp 0)⟩,
     ⟨some 4, none, .call n_echo_Echo_is [(.tmp 3)]⟩,
     ⟨some 5, none, .mv (.tmp 4)⟩,
     ⟨some 6, some (5, true), .mv (.tmp 0)⟩,
     ⟨some 7, some (5, true), .nil (.tmp 6)⟩,
     ⟨some 8, some (5, true), .fld 14 (.tmp 7)⟩,
     ⟨some 9, some (5, true), .load1 (.tmp 8)⟩,
     ⟨some 10, none, .pick (.tmp 5) (.tmp 9) (.const (.bool false))⟩,
     ⟨some 2, none, .mv (.tmp 10)⟩])
   (.ret))),
 [.tmp 2]⟩

/-- (*term.Term).Feed -/
def a_term_Term_Feed : AFn := ⟨74,
 (.seq
  (.ops [
    ⟨some 4, none, .mv (.const (.int .i64 0))⟩])
  (.seq
   (.seq
    (.ops [
      ⟨some 10, none, .mv (.tmp 0)⟩,
      ⟨some 11, none, .call n_term_Term_made [(.tmp 10)]⟩,
      ⟨some 12, none, .not (.tmp 11)⟩])
    (.cond (.tmp 12)
     (.seq
      (.ops [
        ⟨some 4, none, .mv (.const (.int .i64 6))⟩])
      (.ret))
     (.skip)))
   (.seq
    (.ops [
      ⟨some 14, none, .mv (.tmp 0)⟩,
      ⟨some 15, none, .nil (.tmp 14)⟩,
      ⟨some 16, none, .fld 0 (.tmp 15)⟩,
      ⟨some 17, none, .load1 (.tmp 16)⟩,
      ⟨some 18, none, .mv (.tmp 1)⟩,
      ⟨some 19, none, .call n_utf_Reader_Read [(.tmp 17), (.tmp 18)]⟩,
      ⟨some 13, none, .mv (.tmp 19)⟩,
      ⟨some 20, none, .ext (.tmp 13) 0⟩,
      ⟨some 21, none, .ext (.tmp 13) 1⟩,
      ⟨some 5, none, .mv (.tmp 20)⟩,
      ⟨some 6, none, .mv (.tmp 21)⟩])
    (.seq
     (.seq
      (.ops [
        ⟨some 22, none, .mv (.tmp 6)⟩,
        ⟨some 23, none, .bin .neq t_api_Errno (.tmp 22) (.const (.int .i64 0))⟩])
      (.cond (.tmp 23)
       (.seq
        (.ops [
          ⟨some 24, none, .mv (.tmp 6)⟩,
          ⟨some 4, none, .mv (.tmp 24)⟩])
        (.ret))
       (.skip)))
     (.seq
      (.ops [
        ⟨some 26, none, .mv (.tmp 0)⟩,
        ⟨some 27, none, .nil (.tmp 26)⟩,
        ⟨some 28, none, .fld 1 (.tmp 27)⟩,
        ⟨some 29, none, .load1 (.tmp 28)⟩,
        ⟨some 30, none, .mv (.tmp 5)⟩,
        ⟨some 31, none, .call n_ansi_Parser_Feed [(.tmp 29), (.tmp 30)]⟩,
        ⟨some 25, none, .mv (.tmp 31)⟩,
        ⟨some 32, none, .ext (.tmp 25) 0⟩,
        ⟨some 33, none, .ext (.tmp 25) 1⟩,
        ⟨some 7, none, .mv (.tmp 32)⟩,
        ⟨some 6, none, .mv (.tmp 33)⟩])
      (.seq
       (.seq
        (.ops [
          ⟨some 34, none, .mv (.tmp 6)⟩,
          ⟨some 35, none, .bin .neq t_api_Errno (.tmp 34) (.const (.int .i64 0))⟩])
        (.cond (.tmp 35)
         (.seq
          (.ops [
            ⟨some 36, none, .mv (.tmp 6)⟩,
            ⟨some 4, none, .mv (.tmp 36)⟩])
          (.ret))
         (.skip)))
       (.seq
        (.seq
         (.ops [
           ⟨some 37, none, .mv (.tmp 7)⟩,
           ⟨some 38, none, .len (.tmp 37)⟩,
           ⟨some 39, none, .mv (.const (.int .i64 0))⟩])
         (.block 0
          (.loop
           (.seq
            (.ops [
              ⟨some 40, none, .bin .lss t_int (.tmp 39) (.tmp 38)⟩])
            (.seq
             (.cond (.tmp 40)
              (.skip)
              (.exit 0))
             (.seq
              (.block 1
               (.seq
                (.ops [
                  ⟨some 41, none, .idxS 7 (.tmp 37) (.tmp 39)⟩,
                  ⟨some 42, none, .loadN 7 (.tmp 41)⟩,
                  ⟨some 9, none, .new t_ansi_Event [(.int .i64 0), (.int .i32 0), (.int .u8 0), (.int .u8 0), (.int .u8 0), (.slice none 0 0), (.string .empty)]⟩,
                  ⟨none, none, .store 7 (.tmp 9) (.tmp 42)⟩])
                (.seq
                 (.ops [
                   ⟨some 43, none, .fld 0 (.tmp 9)⟩,
                   ⟨some 44, none, .load1 (.tmp 43)⟩])
                 (.block 2
                  (.seq
                   (.ops [
                     ⟨some 46, none, .bin .eql t_int (.tmp 44) (.const (.int .i64 1))⟩,
                     ⟨some 45, none, .mv (.tmp 46)⟩])
                   (.cond (.tmp 45)
                    (.ops [
                      ⟨some 47, none, .mv (.tmp 0)⟩,
                      ⟨some 48, none, .fld 1 (.tmp 9)⟩,
                      ⟨some 49, none, .load1 (.tmp 48)⟩,
                      ⟨some 50, none, .call n_term_Term_print [(.tmp 47), (.tmp 49)]⟩])
                    (.seq
                     (.ops [
                       ⟨some 52, none, .bin .eql t_int (.tmp 44) (.const (.int .i64 2))⟩,
                       ⟨some 51, none, .mv (.tmp 52)⟩])
                     (.cond (.tmp 51)
                      (.ops [
                        ⟨some 53, none, .mv (.tmp 0)⟩,
                        ⟨some 54, none, .fld 1 (.tmp 9)⟩,
                        ⟨some 55, none, .load1 (.tmp 54)⟩,
                        ⟨some 56, none, .call n_term_Term_control [(.tmp 53), (.tmp 55)]⟩])
                      (.seq
                       (.ops [
                         ⟨some 58, none, .bin .eql t_int (.tmp 44) (.const (.int .i64 3))⟩,
                         ⟨some 57, none, .mv (.tmp 58)⟩])
                       (.cond (.tmp 57)
                        (.ops [
                          ⟨some 59, none, .mv (.tmp 0)⟩,
                          ⟨some 60, none, .loadN 7 (.tmp 9)⟩,
                          ⟨some 61, none, .call n_term_Term_escape [(.tmp 59), (.tmp 60)]⟩])
                        (.seq
                         (.ops [
                           ⟨some 63, none, .bin .eql t_int (.tmp 44) (.const (.int .i64 4))⟩,
                           ⟨some 62, none, .mv (.tmp 63)⟩])
                         (.cond (.tmp 62)
                          (.ops [
                            ⟨some 64, none, .mv (.tmp 0)⟩,
                            ⟨some 65, none, .loadN 7 (.tmp 9)⟩,
                            ⟨some 66, none, .call n_term_Term_sequence [(.tmp 64), (.tmp 65)]⟩])
                          (.seq
                           (.ops [
                             ⟨some 68, none, .bin .eql t_int (.tmp 44) (.const (.int .i64 5))⟩,
                             ⟨some 67, none, .mv (.tmp 68)⟩])
                           (.cond (.tmp 67)
                            (.ops [
                              ⟨some 69, none, .mv (.tmp 0)⟩,
                              ⟨some 70, none, .fld 6 (.tmp 9)⟩,
                              ⟨some 71, none, .load1 (.tmp 70)⟩,
                              ⟨some 72, none, .call n_term_Term_system [(.tmp 69), (.tmp 71)]⟩])
                            (.skip)))))))))))))))
              (.ops [
                ⟨some 73, none, .bin .add t_int (.tmp 39) (.const (.int .i64 1))⟩,
                ⟨some 39, none, .mv (.tmp 73)⟩])))))))
        (.seq
         (.ops [
           ⟨some 4, none, .mv (.const (.int .i64 0))⟩])
         (.ret))))))))),
 [.tmp 4]⟩

/-- (*echo.Echo).Hits -/
def a_echo_Echo_Hits : AFn := ⟨10,
 (.seq
  (.ops [
    ⟨some 2, none, .mv (.const (.int .i64 0))⟩])
  (.seq
   (.seq
    (.ops [
      ⟨some 3, none, .mv (.tmp 0)⟩,
      ⟨some 4, none, .call n_echo_Echo_is [(.tmp 3)]⟩,
      ⟨some 5, none, .not (.tmp 4)⟩])
    (.cond (.tmp 5)
     (.seq
      (.ops [
        ⟨some 2, none, .mv (.const (.int .i64 0))⟩])
      (.ret))
     (.skip)))
   (.seq
    (.ops [
      ⟨some 6, none, .mv (.tmp 0)⟩,
      ⟨some 7, none, .nil (.tmp 6)⟩,
      ⟨some 8, none, .fld 16 (.tmp 7)⟩,
      ⟨some 9, none, .load1 (.tmp 8)⟩,
      ⟨some 2, none, .mv (.tmp 9)⟩])
    (.ret)))),
 [.tmp 2]⟩

/-- (*echo.Echo).Misses -/
def a_echo_Echo_Misses : AFn := ⟨10,
 (.seq
  (.ops [
    ⟨some 2, none, .mv (.const (.int .i64 0))⟩])
  (.seq
   (.seq
    (.ops [
      ⟨some 3, none, .mv (.tmp 0)⟩,
      ⟨some 4, none, .call n_echo_Echo_is [(.tmp 3)]⟩,
      ⟨some 5, none, .not (.tmp 4)⟩])
    (.cond (.tmp 5)
     (.seq
      (.ops [
        ⟨some 2, none, .mv (.const (.int .i64 0))⟩])
      (.ret))
     (.skip)))
   (.seq
    (.ops [
      ⟨some 6, none, .mv (.tmp 0)⟩,
      ⟨some 7, none, .nil (.tmp 6)⟩,
      ⟨some 8, none, .fld 17 (.tmp 7)⟩,
      ⟨some 9, none, .load1 (.tmp 8)⟩,
      ⟨some 2, none, .mv (.tmp 9)⟩])
    (.ret)))),
 [.tmp 2]⟩

/-- (*echo.Echo).Guesses -/
def a_echo_Echo_Guesses : AFn := ⟨11,
 (.seq
  (.ops [
    ⟨some 2, none, .mv (.const (.slice none 0 0))⟩])
  (.seq
   (.seq
    (.ops [
      ⟨some 3, none, .mv (.tmp 0)⟩,
      ⟨some 4, none, .call n_echo_Echo_is [(.tmp 3)]⟩,
      ⟨some 5, none, .not (.tmp 4)⟩])
    (.cond (.tmp 5)
     (.seq
      (.ops [
        ⟨some 2, none, .mv (.const (.slice none 0 0))⟩])
      (.ret))
     (.skip)))
   (.seq
    (.ops [
      ⟨some 6, none, .mv (.tmp 0)⟩,
      ⟨some 7, none, .nil (.tmp 6)⟩,
      ⟨some 8, none, .fld 11 (.tmp 7)⟩,
      ⟨some 9, none, .load1 (.tmp 8)⟩,
      ⟨some 10, none, .call n_slices_Clone_echo_Guess_echo_Guess [(.tmp 9)]⟩,
      ⟨some 2, none, .mv (.tmp 10)⟩])
    (.ret)))),
 [.tmp 2]⟩

/-- (*echo.Echo).Show -/
def a_echo_Echo_Show : AFn := ⟨83,
 (.seq
  (.ops [
    ⟨some 2, none, .new t_view_View [(.int .i64 0), (.int .i64 0), (.slice none 0 0), (.int .i64 0), (.int .i64 0), (.bool false)]⟩,
    ⟨some 3, none, .mv (.const (.int .i64 0))⟩])
  (.seq
   (.seq
    (.ops [
      ⟨some 8, none, .mv (.tmp 0)⟩,
      ⟨some 9, none, .call n_echo_Echo_is [(.tmp 8)]⟩,
      ⟨some 10, none, .not (.tmp 9)⟩])
    (.cond (.tmp 10)
     (.seq
      (.ops [
        ⟨some 11, none, .gen (.build t_view_View #[]) t_view_View⟩,
        ⟨none, none, .store 6 (.tmp 2) (.tmp 11)⟩,
        ⟨some 3, none, .mv (.const (.int .i64 6))⟩])
      (.ret))
     (.skip)))
   (.seq
    (.ops [
      ⟨some 12, none, .mv (.tmp 0)⟩,
      ⟨some 13, none, .nil (.tmp 12)⟩,
      ⟨some 14, none, .fld 1 (.tmp 13)⟩,
      ⟨some 15, none, .fld 0 (.tmp 14)⟩,
      ⟨some 16, none, .loadN 6 (.tmp 15)⟩,
      ⟨some 4, none, .new t_view_View [(.int .i64 0), (.int .i64 0), (.slice none 0 0), (.int .i64 0), (.int .i64 0), (.bool false)]⟩,
      ⟨none, none, .store 6 (.tmp 4) (.tmp 16)⟩])
    (.seq
     (.ops [
       ⟨some 17, none, .fld 2 (.tmp 4)⟩,
       ⟨some 18, none, .load1 (.tmp 17)⟩,
       ⟨some 19, none, .call n_slices_Clone_grid_Cell_grid_Cell [(.tmp 18)]⟩,
       ⟨some 20, none, .fld 2 (.tmp 4)⟩,
       ⟨none, none, .store 1 (.tmp 20) (.tmp 19)⟩])
     (.seq
      (.seq
       (.ops [
         ⟨some 21, none, .mv (.tmp 0)⟩,
         ⟨some 22, none, .nil (.tmp 21)⟩,
         ⟨some 23, none, .fld 11 (.tmp 22)⟩,
         ⟨some 24, none, .load1 (.tmp 23)⟩,
         ⟨some 25, none, .len (.tmp 24)⟩,
         ⟨some 26, none, .mv (.const (.int .i64 0))⟩])
       (.block 0
        (.loop
         (.seq
          (.ops [
            ⟨some 27, none, .bin .lss t_int (.tmp 26) (.tmp 25)⟩])
          (.seq
           (.cond (.tmp 27)
            (.skip)
            (.exit 0))
           (.seq
            (.block 1
             (.seq
              (.ops [
                ⟨some 28, none, .idxS 4 (.tmp 24) (.tmp 26)⟩,
                ⟨some 29, none, .loadN 4 (.tmp 28)⟩,
                ⟨some 6, none, .new t_echo_Guess [(.int .u64 0), (.int .i64 0), (.int .i64 0), (.int .i32 0)]⟩,
                ⟨none, none, .store 4 (.tmp 6) (.tmp 29)⟩])
              (.seq
               (.ops [
                 ⟨some 30, none, .loadN 6 (.tmp 4)⟩,
                 ⟨some 31, none, .fld 1 (.tmp 6)⟩,
                 ⟨some 32, none, .load1 (.tmp 31)⟩,
                 ⟨some 33, none, .fld 2 (.tmp 6)⟩,
                 ⟨some 34, none, .load1 (.tmp 33)⟩,
                 ⟨some 35, none, .call n_echo_index [(.tmp 30), (.tmp 32), (.tmp 34)]⟩,
                 ⟨some 7, none, .mv (.tmp 35)⟩])
               (.seq
                (.ops [
                  ⟨some 36, none, .mv (.tmp 7)⟩,
                  ⟨some 37, none, .bin .geq t_int (.tmp 36) (.const (.int .i64 0))⟩])
                (.cond (.tmp 37)
                 (.seq
                  (.ops [
                    ⟨some 38, none, .fld 2 (.tmp 4)⟩,
                    ⟨some 39, none, .load1 (.tmp 38)⟩,
                    ⟨some 40, none, .mv (.tmp 7)⟩,
                    ⟨some 41, none, .fld 3 (.tmp 6)⟩,
                    ⟨some 42, none, .load1 (.tmp 41)⟩,
                    ⟨some 43, none, .idxS 4 (.tmp 39) (.tmp 40)⟩,
                    ⟨some 44, none, .fld 0 (.tmp 43)⟩,
                    ⟨none, none, .store 1 (.tmp 44) (.tmp 42)⟩])
                  (.ops [
                    ⟨some 45, none, .fld 2 (.tmp 4)⟩,
                    ⟨some 46, none, .load1 (.tmp 45)⟩,
                    ⟨some 47, none, .mv (.tmp 7)⟩,
                    ⟨some 48, none, .idxS 4 (.tmp 46) (.tmp 47)⟩,
                    ⟨some 49, none, .fld 1 (.tmp 48)⟩,
                    ⟨some 50, none, .fld 0 (.tmp 49)⟩,
                    ⟨some 51, none, .load1 (.tmp 50)⟩,
                    ⟨some 52, none, .gen (.binOp .or t_uint8 (.tmp 51) (.const (.int .u8 8)) t_uint8) t_uint8⟩,
                    ⟨some 53, none, .idxS 4 (.tmp 46) (.tmp 47)⟩,
                    ⟨some 54, none, .fld 1 (.tmp 53)⟩,
                    ⟨some 55, none, .fld 0 (.tmp 54)⟩,
                    ⟨none, none, .store 1 (.tmp 55) (.tmp 52)⟩]))
                 (.skip))))))
            (.ops [
              ⟨some 56, none, .bin .add t_int (.tmp 26) (.const (.int .i64 1))⟩,
              ⟨some 26, none, .mv (.tmp 56)⟩])))))))
      (.seq
       (.seq
        (.plan [
          (⟨some 57, none, .loadN 6 (.tmp 4)⟩, []),
          (⟨some 58, none, .mv (.tmp 0)⟩, []),
          (⟨some 59, none, .nil (.tmp 58)⟩, []),
          (⟨some 60, none, .fld 12 (.tmp 59)⟩, []),
          (⟨some 61, none, .fld 0 (.tmp 60)⟩, []),
          (⟨some 62, none, .load1 (.tmp 61)⟩, []),
          (⟨some 63, none, .mv (.tmp 0)⟩, []),
          (⟨some 64, none, .nil (.tmp 63)⟩, []),
          (⟨some 65, none, .fld 12 (.tmp 64)⟩, []),
          (⟨some 66, none, .fld 1 (.tmp 65)⟩, []),
          (⟨some 67, none, .load1 (.tmp 66)⟩, []),
          (⟨some 68, none, .call n_echo_index [(.tmp 57), (.tmp 62), (.tmp 67)]⟩, []),
          (⟨some 69, none, .bin .geq t_int (.tmp 68) (.const (.int .i64 0))⟩, [])])
        (.cond (.tmp 69)
         (.plan [
           (⟨some 70, none, .mv (.tmp 0)⟩, []),
           (⟨some 71, none, .nil (.tmp 70)⟩, []),
           (⟨some 72, none, .fld 12 (.tmp 71)⟩, []),
           (⟨some 73, none, .fld 0 (.tmp 72)⟩, []),
           (⟨some 74, none, .load1 (.tmp 73)⟩, []),
           (⟨some 75, none, .mv (.tmp 0)⟩, []),
           (⟨some 76, none, .nil (.tmp 75)⟩, []),
           (⟨some 77, none, .fld 12 (.tmp 76)⟩, []),
           (⟨some 78, none, .fld 1 (.tmp 77)⟩, []),
           (⟨some 79, none, .load1 (.tmp 78)⟩, []),
           (⟨some 80, none, .fld 3 (.tmp 4)⟩, []),
           (⟨none, none, .store 1 (.tmp 80) (.tmp 74)⟩, [⟨some 79, none, .load1 (.tmp 78)⟩]),
           (⟨some 81, none, .fld 4 (.tmp 4)⟩, []),
           (⟨none, none, .store 1 (.tmp 81) (.tmp 79)⟩, [])])
         (.skip)))
       (.seq
        (.ops [
          ⟨some 82, none, .loadN 6 (.tmp 4)⟩,
          ⟨none, none, .store 6 (.tmp 2) (.tmp 82)⟩,
          ⟨some 3, none, .mv (.const (.int .i64 0))⟩])
        (.ret)))))))),
 [.cell 2 t_view_View, .tmp 3]⟩

/-- longlinelaw19.Fits -/
def a_law19_Fits : AFn := ⟨19,
 (.seq
  (.ops [
    ⟨some 4, none, .mv (.const (.bool false))⟩])
  (.seq
   (.ops [
     ⟨some 5, none, .mv (.tmp 0)⟩,
     ⟨some 6, none, .bin .geq t_int (.tmp 5) (.const (.int .i64 1))⟩,
     ⟨some 7, none, .mv (.tmp 6)⟩,
     ⟨some 8, some (7, true), .mv (.tmp 0)⟩,
     ⟨some 9, some (7, true), .bin .leq t_int (.tmp 8) (.const (.int .i64 12))⟩,
     ⟨some 10, none, .pick (.tmp 7) (.tmp 9) (.const (.bool false))⟩,
     ⟨some 11, none, .mv (.tmp 10)⟩,
     ⟨some 12, some (11, true), .mv (.tmp 1)⟩,
     ⟨some 13, some (11, true), .bin .geq t_int (.tmp 12) (.const (.int .i64 1))⟩,
     ⟨some 14, none, .pick (.tmp 11) (.tmp 13) (.const (.bool false))⟩,
     ⟨some 15, none, .mv (.tmp 14)⟩,
     ⟨some 16, some (15, true), .mv (.tmp 1)⟩,
     ⟨some 17, some (15, true), .bin .leq t_int (.tmp 16) (.const (.int .i64 40))⟩,
     ⟨some 18, none, .pick (.tmp 15) (.tmp 17) (.const (.bool false))⟩,
     ⟨some 4, none, .mv (.tmp 18)⟩])
   (.ret))),
 [.tmp 4]⟩

/-- view.Of -/
def a_view_Of : AFn := ⟨50,
 (.seq
  (.ops [
    ⟨some 2, none, .new t_view_View [(.int .i64 0), (.int .i64 0), (.slice none 0 0), (.int .i64 0), (.int .i64 0), (.bool false)]⟩,
    ⟨some 3, none, .mv (.const (.int .i64 0))⟩])
  (.seq
   (.ops [
     ⟨some 9, none, .mv (.tmp 0)⟩,
     ⟨some 10, none, .call n_term_Term_Grid [(.tmp 9)]⟩,
     ⟨some 4, none, .mv (.tmp 10)⟩])
   (.seq
    (.seq
     (.ops [
       ⟨some 11, none, .mv (.tmp 4)⟩,
       ⟨some 12, none, .bin .eql t_P_grid_Grid (.tmp 11) (.const (.pointer none))⟩])
     (.cond (.tmp 12)
      (.seq
       (.ops [
         ⟨some 13, none, .gen (.build t_view_View #[]) t_view_View⟩,
         ⟨none, none, .store 6 (.tmp 2) (.tmp 13)⟩,
         ⟨some 3, none, .mv (.const (.int .i64 6))⟩])
       (.ret))
      (.skip)))
    (.seq
     (.ops [
       ⟨some 14, none, .mv (.tmp 4)⟩,
       ⟨some 15, none, .call n_grid_Grid_Rows [(.tmp 14)]⟩,
       ⟨some 16, none, .mv (.tmp 4)⟩,
       ⟨some 17, none, .call n_grid_Grid_Cols [(.tmp 16)]⟩,
       ⟨some 18, none, .gen (.build t_view_View #[(0, (.tmp 15)), (1, (.tmp 17))]) t_view_View⟩,
       ⟨some 5, none, .new t_view_View [(.int .i64 0), (.int .i64 0), (.slice none 0 0), (.int .i64 0), (.int .i64 0), (.bool false)]⟩,
       ⟨none, none, .store 6 (.tmp 5) (.tmp 18)⟩])
     (.seq
      (.ops [
        ⟨some 20, none, .mv (.tmp 0)⟩,
        ⟨some 21, none, .call n_term_Term_Cursor [(.tmp 20)]⟩,
        ⟨some 19, none, .mv (.tmp 21)⟩,
        ⟨some 22, none, .ext (.tmp 19) 0⟩,
        ⟨some 23, none, .ext (.tmp 19) 1⟩,
        ⟨some 24, none, .ext (.tmp 19) 2⟩,
        ⟨some 25, none, .fld 3 (.tmp 5)⟩,
        ⟨none, none, .store 1 (.tmp 25) (.tmp 22)⟩,
        ⟨some 26, none, .fld 4 (.tmp 5)⟩,
        ⟨none, none, .store 1 (.tmp 26) (.tmp 23)⟩,
        ⟨some 27, none, .fld 5 (.tmp 5)⟩,
        ⟨none, none, .store 1 (.tmp 27) (.tmp 24)⟩])
      (.seq
       (.seq
        (.ops [
          ⟨some 28, none, .fld 0 (.tmp 5)⟩,
          ⟨some 29, none, .load1 (.tmp 28)⟩,
          ⟨some 30, none, .mv (.const (.int .i64 0))⟩])
        (.block 0
         (.loop
          (.seq
           (.ops [
             ⟨some 31, none, .bin .lss t_int (.tmp 30) (.tmp 29)⟩])
           (.seq
            (.cond (.tmp 31)
             (.skip)
             (.exit 0))
            (.seq
             (.block 1
              (.seq
               (.ops [
                 ⟨some 32, none, .mv (.tmp 30)⟩,
                 ⟨some 6, none, .mv (.tmp 32)⟩])
               (.seq
                (.ops [
                  ⟨some 34, none, .mv (.tmp 4)⟩,
                  ⟨some 35, none, .mv (.tmp 6)⟩,
                  ⟨some 36, none, .call n_grid_Grid_Line [(.tmp 34), (.tmp 35)]⟩,
                  ⟨some 33, none, .mv (.tmp 36)⟩,
                  ⟨some 37, none, .ext (.tmp 33) 0⟩,
                  ⟨some 38, none, .ext (.tmp 33) 1⟩,
                  ⟨some 7, none, .mv (.tmp 37)⟩,
                  ⟨some 8, none, .mv (.tmp 38)⟩])
                (.seq
                 (.seq
                  (.ops [
                    ⟨some 39, none, .mv (.tmp 8)⟩,
                    ⟨some 40, none, .bin .neq t_api_Errno (.tmp 39) (.const (.int .i64 0))⟩])
                  (.cond (.tmp 40)
                   (.seq
                    (.ops [
                      ⟨some 41, none, .gen (.build t_view_View #[]) t_view_View⟩,
                      ⟨some 42, none, .mv (.tmp 8)⟩,
                      ⟨none, none, .store 6 (.tmp 2) (.tmp 41)⟩,
                      ⟨some 3, none, .mv (.tmp 42)⟩])
                    (.ret))
                   (.skip)))
                 (.ops [
                   ⟨some 43, none, .fld 2 (.tmp 5)⟩,
                   ⟨some 44, none, .load1 (.tmp 43)⟩,
                   ⟨some 45, none, .mv (.tmp 7)⟩,
                   ⟨some 46, none, .gen (.call ⟨.builtin .append, #[(.tmp 44), (.tmp 45)], #[t_S_grid_Cell, t_S_grid_Cell]⟩) t_S_grid_Cell⟩,
                   ⟨some 47, none, .fld 2 (.tmp 5)⟩,
                   ⟨none, none, .store 1 (.tmp 47) (.tmp 46)⟩])))))
             (.ops [
               ⟨some 48, none, .bin .add t_int (.tmp 30) (.const (.int .i64 1))⟩,
               ⟨some 30, none, .mv (.tmp 48)⟩])))))))
       (.seq
        (.ops [
          ⟨some 49, none, .loadN 6 (.tmp 5)⟩,
          ⟨none, none, .store 6 (.tmp 2) (.tmp 49)⟩,
          ⟨some 3, none, .mv (.const (.int .i64 0))⟩])
        (.ret)))))))),
 [.cell 2 t_view_View, .tmp 3]⟩

/-- view.Right -/
def a_view_Right : AFn := ⟨60,
 (.seq
  (.ops [
    ⟨some 1, none, .box t_view_View (.tmp 0)⟩,
    ⟨some 2, none, .mv (.const (.bool false))⟩])
  (.seq
   (.block 0
    (.seq
     (.ops [
       ⟨some 4, none, .fld 0 (.tmp 1)⟩,
       ⟨some 5, none, .load1 (.tmp 4)⟩,
       ⟨some 6, none, .bin .lss t_int (.tmp 5) (.const (.int .i64 1))⟩,
       ⟨some 7, none, .mv (.tmp 6)⟩,
       ⟨some 8, some (7, false), .fld 0 (.tmp 1)⟩,
       ⟨some 9, some (7, false), .load1 (.tmp 8)⟩,
       ⟨some 10, some (7, false), .bin .gtr t_int (.tmp 9) (.const (.int .i64 12))⟩,
       ⟨some 11, none, .pick (.tmp 7) (.const (.bool true)) (.tmp 10)⟩,
       ⟨some 12, none, .mv (.tmp 11)⟩,
       ⟨some 13, some (12, false), .fld 1 (.tmp 1)⟩,
       ⟨some 14, some (12, false), .load1 (.tmp 13)⟩,
       ⟨some 15, some (12, false), .bin .lss t_int (.tmp 14) (.const (.int .i64 1))⟩,
       ⟨some 16, none, .pick (.tmp 12) (.const (.bool true)) (.tmp 15)⟩,
       ⟨some 17, none, .mv (.tmp 16)⟩,
       ⟨some 18, some (17, false), .fld 1 (.tmp 1)⟩,
       ⟨some 19, some (17, false), .load1 (.tmp 18)⟩,
       ⟨some 20, some (17, false), .bin .gtr t_int (.tmp 19) (.const (.int .i64 40))⟩,
       ⟨some 21, none, .pick (.tmp 17) (.const (.bool true)) (.tmp 20)⟩,
       ⟨some 3, none, .mv (.tmp 21)⟩])
     (.cond (.tmp 3)
      (.seq
       (.ops [
         ⟨some 2, none, .mv (.const (.bool false))⟩])
       (.ret))
      (.seq
       (.ops [
         ⟨some 23, none, .fld 3 (.tmp 1)⟩,
         ⟨some 24, none, .load1 (.tmp 23)⟩,
         ⟨some 25, none, .bin .lss t_int (.tmp 24) (.const (.int .i64 0))⟩,
         ⟨some 26, none, .mv (.tmp 25)⟩,
         ⟨some 27, some (26, false), .fld 3 (.tmp 1)⟩,
         ⟨some 28, some (26, false), .load1 (.tmp 27)⟩,
         ⟨some 29, some (26, false), .fld 0 (.tmp 1)⟩,
         ⟨some 30, some (26, false), .load1 (.tmp 29)⟩,
         ⟨some 31, some (26, false), .bin .geq t_int (.tmp 28) (.tmp 30)⟩,
         ⟨some 32, none, .pick (.tmp 26) (.const (.bool true)) (.tmp 31)⟩,
         ⟨some 33, none, .mv (.tmp 32)⟩,
         ⟨some 34, some (33, false), .fld 4 (.tmp 1)⟩,
         ⟨some 35, some (33, false), .load1 (.tmp 34)⟩,
         ⟨some 36, some (33, false), .bin .lss t_int (.tmp 35) (.const (.int .i64 0))⟩,
         ⟨some 37, none, .pick (.tmp 33) (.const (.bool true)) (.tmp 36)⟩,
         ⟨some 38, none, .mv (.tmp 37)⟩,
         ⟨some 39, some (38, false), .fld 4 (.tmp 1)⟩,
         ⟨some 40, some (38, false), .load1 (.tmp 39)⟩,
         ⟨some 41, some (38, false), .fld 1 (.tmp 1)⟩,
         ⟨some 42, some (38, false), .load1 (.tmp 41)⟩,
         ⟨some 43, some (38, false), .bin .geq t_int (.tmp 40) (.tmp 42)⟩,
         ⟨some 44, none, .pick (.tmp 38) (.const (.bool true)) (.tmp 43)⟩,
         ⟨some 45, none, .mv (.tmp 44)⟩,
         ⟨some 46, some (45, false), .fld 2 (.tmp 1)⟩,
         ⟨some 47, some (45, false), .load1 (.tmp 46)⟩,
         ⟨some 48, some (45, false), .len (.tmp 47)⟩,
         ⟨some 49, some (45, false), .fld 0 (.tmp 1)⟩,
         ⟨some 50, some (45, false), .load1 (.tmp 49)⟩,
         ⟨some 51, some (45, false), .fld 1 (.tmp 1)⟩,
         ⟨some 52, some (45, false), .load1 (.tmp 51)⟩,
         ⟨some 53, some (45, false), .bin .mul t_int (.tmp 50) (.tmp 52)⟩,
         ⟨some 54, some (45, false), .bin .neq t_int (.tmp 48) (.tmp 53)⟩,
         ⟨some 55, none, .pick (.tmp 45) (.const (.bool true)) (.tmp 54)⟩,
         ⟨some 22, none, .mv (.tmp 55)⟩])
       (.cond (.tmp 22)
        (.seq
         (.ops [
           ⟨some 2, none, .mv (.const (.bool false))⟩])
         (.ret))
        (.skip))))))
   (.seq
    (.ops [
      ⟨some 56, none, .fld 2 (.tmp 1)⟩,
      ⟨some 57, none, .load1 (.tmp 56)⟩,
      ⟨some 58, none, .call n_slices_ContainsFunc_grid_Cell_grid_Cell [(.tmp 57), (.func n_view_Right_1)]⟩,
      ⟨some 59, none, .not (.tmp 58)⟩,
      ⟨some 2, none, .mv (.tmp 59)⟩])
    (.ret)))),
 [.tmp 2]⟩

/-- longlinelaw20.As -/
def a_law20_As : AFn := ⟨38,
 (.seq
  (.ops [
    ⟨some 1, none, .box t_view_View (.tmp 0)⟩,
    ⟨some 2, none, .new t_longlineref20_View [(.int .i64 0), (.int .i64 0), (.slice none 0 0), (.int .i64 0), (.int .i64 0), (.bool false)]⟩])
  (.seq
   (.ops [
     ⟨some 5, none, .fld 0 (.tmp 1)⟩,
     ⟨some 6, none, .load1 (.tmp 5)⟩,
     ⟨some 7, none, .fld 1 (.tmp 1)⟩,
     ⟨some 8, none, .load1 (.tmp 7)⟩,
     ⟨some 9, none, .gen (.build t_longlineref17_Grid #[(0, (.tmp 6)), (1, (.tmp 8))]) t_longlineref17_Grid⟩,
     ⟨some 10, none, .fld 3 (.tmp 1)⟩,
     ⟨some 11, none, .load1 (.tmp 10)⟩,
     ⟨some 12, none, .fld 4 (.tmp 1)⟩,
     ⟨some 13, none, .load1 (.tmp 12)⟩,
     ⟨some 14, none, .fld 5 (.tmp 1)⟩,
     ⟨some 15, none, .load1 (.tmp 14)⟩,
     ⟨some 16, none, .gen (.build t_longlineref20_View #[(0, (.tmp 9)), (1, (.tmp 11)), (2, (.tmp 13)), (3, (.tmp 15))]) t_longlineref20_View⟩,
     ⟨some 3, none, .new t_longlineref20_View [(.int .i64 0), (.int .i64 0), (.slice none 0 0), (.int .i64 0), (.int .i64 0), (.bool false)]⟩,
     ⟨none, none, .store 6 (.tmp 3) (.tmp 16)⟩])
   (.seq
    (.seq
     (.ops [
       ⟨some 4, none, .mv (.const (.int .i64 0))⟩])
     (.block 0
      (.loop
       (.seq
        (.seq
         (.ops [
           ⟨some 17, none, .mv (.tmp 4)⟩,
           ⟨some 18, none, .fld 2 (.tmp 1)⟩,
           ⟨some 19, none, .load1 (.tmp 18)⟩,
           ⟨some 20, none, .len (.tmp 19)⟩,
           ⟨some 21, none, .bin .lss t_int (.tmp 17) (.tmp 20)⟩])
         (.cond (.tmp 21)
          (.skip)
          (.exit 0)))
        (.seq
         (.block 1
          (.plan [
            (⟨some 24, none, .fld 0 (.tmp 3)⟩, []),
            (⟨some 25, none, .fld 2 (.tmp 24)⟩, []),
            (⟨some 26, none, .load1 (.tmp 25)⟩, []),
            (⟨some 27, none, .fld 2 (.tmp 1)⟩, []),
            (⟨some 28, none, .load1 (.tmp 27)⟩, []),
            (⟨some 29, none, .mv (.tmp 4)⟩, []),
            (⟨some 30, none, .idxS 4 (.tmp 28) (.tmp 29)⟩, []),
            (⟨some 31, none, .loadN 4 (.tmp 30)⟩, []),
            (⟨some 32, none, .call n_law17_Cell [(.tmp 31)]⟩, [⟨some 26, none, .load1 (.tmp 25)⟩]),
            (⟨some 33, none, .gen (.buildSlice t_S_longlineref17_Cell 1 #[(0, (.tmp 32))]) t_S_longlineref17_Cell⟩, [⟨some 26, none, .load1 (.tmp 25)⟩]),
            (⟨some 34, none, .gen (.call ⟨.builtin .append, #[(.tmp 26), (.tmp 33)], #[t_S_longlineref17_Cell, t_S_longlineref17_Cell]⟩) t_S_longlineref17_Cell⟩, []),
            (⟨some 35, none, .fld 0 (.tmp 3)⟩, []),
            (⟨some 36, none, .fld 2 (.tmp 35)⟩, []),
            (⟨none, none, .store 1 (.tmp 36) (.tmp 34)⟩, [])]))
         (.ops [
           ⟨some 22, none, .mv (.tmp 4)⟩,
           ⟨some 23, none, .bin .add t_int (.tmp 22) (.const (.int .i64 1))⟩,
           ⟨some 4, none, .mv (.tmp 23)⟩]))))))
    (.seq
     (.ops [
       ⟨some 37, none, .loadN 6 (.tmp 3)⟩,
       ⟨none, none, .store 6 (.tmp 2) (.tmp 37)⟩])
     (.ret))))),
 [.cell 2 t_longlineref20_View]⟩

/-- longlinelaw22.alive -/
def a_law22_alive : AFn := ⟨61,
 (.seq
  (.ops [
    ⟨some 0, none, .mv (.const (.bool false))⟩])
  (.seq
   (.ops [
     ⟨some 11, none, .call n_reg_First []⟩,
     ⟨some 1, none, .new t_reg_State [(.int .i64 0), (.int .i64 0), (.slice none 0 0), (.int .i64 0), (.int .i64 0), (.bool false), (.string .empty), (.string .empty), (.int .u64 0), (.int .u64 0)]⟩,
     ⟨none, none, .store 10 (.tmp 1) (.tmp 11)⟩])
   (.seq
    (.ops [
      ⟨some 12, none, .loadN 10 (.tmp 1)⟩,
      ⟨some 2, none, .new t_reg_State [(.int .i64 0), (.int .i64 0), (.slice none 0 0), (.int .i64 0), (.int .i64 0), (.bool false), (.string .empty), (.string .empty), (.int .u64 0), (.int .u64 0)]⟩,
      ⟨none, none, .store 10 (.tmp 2) (.tmp 12)⟩])
    (.seq
     (.ops [
       ⟨some 13, none, .fld 6 (.tmp 2)⟩,
       ⟨none, none, .store 1 (.tmp 13) (.const (.string ⟨#[120]⟩))⟩,
       ⟨some 14, none, .fld 9 (.tmp 2)⟩,
       ⟨none, none, .store 1 (.tmp 14) (.const (.int .u64 2))⟩])
     (.seq
      (.ops [
        ⟨some 16, none, .loadN 10 (.tmp 1)⟩,
        ⟨some 17, none, .loadN 10 (.tmp 2)⟩,
        ⟨some 18, none, .call n_reg_Diff [(.tmp 16), (.tmp 17)]⟩,
        ⟨some 15, none, .mv (.tmp 18)⟩,
        ⟨some 19, none, .ext (.tmp 15) 0⟩,
        ⟨some 20, none, .ext (.tmp 15) 1⟩,
        ⟨some 3, none, .mv (.tmp 19)⟩,
        ⟨some 4, none, .mv (.tmp 20)⟩])
      (.seq
       (.ops [
         ⟨some 22, none, .loadN 10 (.tmp 1)⟩,
         ⟨some 23, none, .mv (.tmp 3)⟩,
         ⟨some 24, none, .call n_reg_Apply [(.tmp 22), (.tmp 23)]⟩,
         ⟨some 21, none, .mv (.tmp 24)⟩,
         ⟨some 25, none, .ext (.tmp 21) 0⟩,
         ⟨some 26, none, .ext (.tmp 21) 1⟩,
         ⟨some 5, none, .new t_reg_State [(.int .i64 0), (.int .i64 0), (.slice none 0 0), (.int .i64 0), (.int .i64 0), (.bool false), (.string .empty), (.string .empty), (.int .u64 0), (.int .u64 0)]⟩,
         ⟨none, none, .store 10 (.tmp 5) (.tmp 25)⟩,
         ⟨some 6, none, .mv (.tmp 26)⟩])
       (.seq
        (.ops [
          ⟨some 28, none, .loadN 10 (.tmp 1)⟩,
          ⟨some 29, none, .gen (.buildSlice t_S_uint8 2 #[(0, (.const (.int .u8 1))), (1, (.const (.int .u8 0)))]) t_S_uint8⟩,
          ⟨some 30, none, .call n_reg_Apply [(.tmp 28), (.tmp 29)]⟩,
          ⟨some 27, none, .mv (.tmp 30)⟩,
          ⟨some 31, none, .ext (.tmp 27) 0⟩,
          ⟨some 32, none, .ext (.tmp 27) 1⟩,
          ⟨some 7, none, .new t_reg_State [(.int .i64 0), (.int .i64 0), (.slice none 0 0), (.int .i64 0), (.int .i64 0), (.bool false), (.string .empty), (.string .empty), (.int .u64 0), (.int .u64 0)]⟩,
          ⟨none, none, .store 10 (.tmp 7) (.tmp 31)⟩,
          ⟨some 8, none, .mv (.tmp 32)⟩])
        (.seq
         (.ops [
           ⟨some 34, none, .call n_reg_Of [(.const (.pointer none))]⟩,
           ⟨some 33, none, .mv (.tmp 34)⟩,
           ⟨some 35, none, .ext (.tmp 33) 0⟩,
           ⟨some 36, none, .ext (.tmp 33) 1⟩,
           ⟨some 9, none, .new t_reg_State [(.int .i64 0), (.int .i64 0), (.slice none 0 0), (.int .i64 0), (.int .i64 0), (.bool false), (.string .empty), (.string .empty), (.int .u64 0), (.int .u64 0)]⟩,
           ⟨none, none, .store 10 (.tmp 9) (.tmp 35)⟩,
           ⟨some 10, none, .mv (.tmp 36)⟩])
         (.seq
          (.ops [
            ⟨some 37, none, .mv (.tmp 4)⟩,
            ⟨some 38, none, .bin .eql t_api_Errno (.tmp 37) (.const (.int .i64 0))⟩,
            ⟨some 39, none, .mv (.tmp 38)⟩,
            ⟨some 40, some (39, true), .mv (.tmp 3)⟩,
            ⟨some 41, some (39, true), .gen (.convert t_S_uint8 t_string (.tmp 40)) t_string⟩,
            ⟨some 42, some (39, true), .gen (.binOp .eql t_string (.tmp 41) (.const (.string ⟨#[1, 5, 1, 1, 0, 0, 1, 2, 1, 120, 4, 1, 2]⟩)) t_string) t_bool⟩,
            ⟨some 43, none, .pick (.tmp 39) (.tmp 42) (.const (.bool false))⟩,
            ⟨some 44, none, .mv (.tmp 43)⟩,
            ⟨some 45, some (44, true), .mv (.tmp 6)⟩,
            ⟨some 46, some (44, true), .bin .eql t_api_Errno (.tmp 45) (.const (.int .i64 0))⟩,
            ⟨some 47, none, .pick (.tmp 44) (.tmp 46) (.const (.bool false))⟩,
            ⟨some 48, none, .mv (.tmp 47)⟩,
            ⟨some 49, some (48, true), .loadN 10 (.tmp 2)⟩,
            ⟨some 50, some (48, true), .loadN 10 (.tmp 5)⟩,
            ⟨some 51, some (48, true), .call n_reg_Same [(.tmp 49), (.tmp 50)]⟩,
            ⟨some 52, none, .pick (.tmp 48) (.tmp 51) (.const (.bool false))⟩,
            ⟨some 53, none, .mv (.tmp 52)⟩,
            ⟨some 54, some (53, true), .mv (.tmp 8)⟩,
            ⟨some 55, some (53, true), .bin .eql t_api_Errno (.tmp 54) (.const (.int .i64 3))⟩,
            ⟨some 56, none, .pick (.tmp 53) (.tmp 55) (.const (.bool false))⟩,
            ⟨some 57, none, .mv (.tmp 56)⟩,
            ⟨some 58, some (57, true), .mv (.tmp 10)⟩,
            ⟨some 59, some (57, true), .bin .eql t_api_Errno (.tmp 58) (.const (.int .i64 6))⟩,
            ⟨some 60, none, .pick (.tmp 57) (.tmp 59) (.const (.bool false))⟩,
            ⟨some 0, none, .mv (.tmp 60)⟩])
          (.ret)))))))))),
 [.tmp 0]⟩

/-- (*term.Term).Resize -/
def a_term_Term_Resize : AFn := ⟨43,
 (.seq
  (.ops [
    ⟨some 6, none, .mv (.const (.int .i64 0))⟩])
  (.seq
   (.seq
    (.ops [
      ⟨some 10, none, .mv (.tmp 0)⟩,
      ⟨some 11, none, .call n_term_Term_made [(.tmp 10)]⟩,
      ⟨some 12, none, .not (.tmp 11)⟩])
    (.cond (.tmp 12)
     (.seq
      (.ops [
        ⟨some 6, none, .mv (.const (.int .i64 6))⟩])
      (.ret))
     (.skip)))
   (.seq
    (.seq
     (.ops [
       ⟨some 13, none, .mv (.tmp 0)⟩,
       ⟨some 14, none, .nil (.tmp 13)⟩,
       ⟨some 15, none, .fld 2 (.tmp 14)⟩,
       ⟨some 16, none, .loadN 2 (.tmp 15)⟩,
       ⟨some 17, none, .mv (.const (.int .i64 0))⟩])
     (.block 0
      (.loop
       (.seq
        (.ops [
          ⟨some 18, none, .bin .lss t_int (.tmp 17) (.const (.int .i64 2))⟩])
        (.seq
         (.cond (.tmp 18)
          (.skip)
          (.exit 0))
         (.seq
          (.block 1
           (.seq
            (.ops [
              ⟨some 19, none, .gen (.index t_2_P_grid_Grid (.tmp 16) (.tmp 17)) t_P_grid_Grid⟩,
              ⟨some 8, none, .mv (.tmp 19)⟩])
            (.seq
             (.ops [
               ⟨some 20, none, .mv (.tmp 8)⟩,
               ⟨some 21, none, .mv (.tmp 1)⟩,
               ⟨some 22, none, .mv (.tmp 2)⟩,
               ⟨some 23, none, .call n_grid_Blank []⟩,
               ⟨some 24, none, .call n_grid_Grid_Resize [(.tmp 20), (.tmp 21), (.tmp 22), (.tmp 23)]⟩,
               ⟨some 9, none, .mv (.tmp 24)⟩])
             (.seq
              (.ops [
                ⟨some 25, none, .mv (.tmp 9)⟩,
                ⟨some 26, none, .bin .neq t_api_Errno (.tmp 25) (.const (.int .i64 0))⟩])
              (.cond (.tmp 26)
               (.seq
                (.ops [
                  ⟨some 27, none, .mv (.tmp 9)⟩,
                  ⟨some 6, none, .mv (.tmp 27)⟩])
                (.ret))
               (.skip))))))
          (.ops [
            ⟨some 28, none, .bin .add t_int (.tmp 17) (.const (.int .i64 1))⟩,
            ⟨some 17, none, .mv (.tmp 28)⟩])))))))
    (.seq
     (.ops [
       ⟨some 29, none, .mv (.tmp 0)⟩,
       ⟨some 30, none, .mv (.tmp 1)⟩,
       ⟨some 31, none, .bin .sub t_int (.tmp 30) (.const (.int .i64 1))⟩,
       ⟨some 32, none, .call n_term_Term_region [(.tmp 29), (.const (.int .i64 0)), (.tmp 31)]⟩])
     (.seq
      (.plan [
        (⟨some 33, none, .mv (.tmp 0)⟩, []),
        (⟨some 34, none, .mv (.tmp 0)⟩, []),
        (⟨some 35, none, .nil (.tmp 34)⟩, []),
        (⟨some 36, none, .fld 5 (.tmp 35)⟩, []),
        (⟨some 37, none, .load1 (.tmp 36)⟩, []),
        (⟨some 38, none, .mv (.tmp 0)⟩, []),
        (⟨some 39, none, .nil (.tmp 38)⟩, []),
        (⟨some 40, none, .fld 6 (.tmp 39)⟩, []),
        (⟨some 41, none, .load1 (.tmp 40)⟩, []),
        (⟨some 42, none, .call n_term_Term_move [(.tmp 33), (.tmp 37), (.tmp 41)]⟩, [])])
      (.seq
       (.ops [
         ⟨some 6, none, .mv (.const (.int .i64 0))⟩])
       (.ret))))))),
 [.tmp 6]⟩

/-- (*term.Term).Clip -/
def a_term_Term_Clip : AFn := ⟨14,
 (.seq
  (.ops [
    ⟨some 2, none, .mv (.const (.string .empty))⟩,
    ⟨some 3, none, .mv (.const (.int .i64 0))⟩])
  (.seq
   (.seq
    (.ops [
      ⟨some 4, none, .mv (.tmp 0)⟩,
      ⟨some 5, none, .bin .eql t_P_term_Term (.tmp 4) (.const (.pointer none))⟩])
    (.cond (.tmp 5)
     (.seq
      (.ops [
        ⟨some 2, none, .mv (.const (.string .empty))⟩,
        ⟨some 3, none, .mv (.const (.int .i64 0))⟩])
      (.ret))
     (.skip)))
   (.seq
    (.plan [
      (⟨some 6, none, .mv (.tmp 0)⟩, []),
      (⟨some 7, none, .nil (.tmp 6)⟩, []),
      (⟨some 8, none, .fld 64 (.tmp 7)⟩, []),
      (⟨some 9, none, .load1 (.tmp 8)⟩, []),
      (⟨some 10, none, .mv (.tmp 0)⟩, []),
      (⟨some 11, none, .nil (.tmp 10)⟩, []),
      (⟨some 12, none, .fld 65 (.tmp 11)⟩, []),
      (⟨some 13, none, .load1 (.tmp 12)⟩, []),
      (⟨some 2, none, .mv (.tmp 9)⟩, []),
      (⟨some 3, none, .mv (.tmp 13)⟩, [])])
    (.ret)))),
 [.tmp 2, .tmp 3]⟩

/-- (*term.Term).Grid -/
def a_term_Term_Grid : AFn := ⟨9,
 (.seq
  (.ops [
    ⟨some 2, none, .mv (.const (.pointer none))⟩])
  (.seq
   (.seq
    (.ops [
      ⟨some 3, none, .mv (.tmp 0)⟩,
      ⟨some 4, none, .call n_term_Term_made [(.tmp 3)]⟩,
      ⟨some 5, none, .not (.tmp 4)⟩])
    (.cond (.tmp 5)
     (.seq
      (.ops [
        ⟨some 2, none, .mv (.const (.pointer none))⟩])
      (.ret))
     (.skip)))
   (.seq
    (.ops [
      ⟨some 6, none, .mv (.tmp 0)⟩,
      ⟨some 7, none, .call n_term_Term_g [(.tmp 6)]⟩,
      ⟨some 8, none, .call n_grid_Grid_Copy [(.tmp 7)]⟩,
      ⟨some 2, none, .mv (.tmp 8)⟩])
    (.ret)))),
 [.tmp 2]⟩

/-- (*term.Term).Cursor -/
def a_term_Term_Cursor : AFn := ⟨21,
 (.seq
  (.ops [
    ⟨some 2, none, .mv (.const (.int .i64 0))⟩,
    ⟨some 3, none, .mv (.const (.int .i64 0))⟩,
    ⟨some 4, none, .mv (.const (.bool false))⟩])
  (.seq
   (.seq
    (.ops [
      ⟨some 5, none, .mv (.tmp 0)⟩,
      ⟨some 6, none, .call n_term_Term_made [(.tmp 5)]⟩,
      ⟨some 7, none, .not (.tmp 6)⟩])
    (.cond (.tmp 7)
     (.seq
      (.ops [
        ⟨some 2, none, .mv (.const (.int .i64 0))⟩,
        ⟨some 3, none, .mv (.const (.int .i64 0))⟩,
        ⟨some 4, none, .mv (.const (.bool false))⟩])
      (.ret))
     (.skip)))
   (.seq
    (.plan [
      (⟨some 8, none, .mv (.tmp 0)⟩, []),
      (⟨some 9, none, .nil (.tmp 8)⟩, []),
      (⟨some 10, none, .fld 5 (.tmp 9)⟩, []),
      (⟨some 11, none, .load1 (.tmp 10)⟩, []),
      (⟨some 12, none, .mv (.tmp 0)⟩, []),
      (⟨some 13, none, .nil (.tmp 12)⟩, []),
      (⟨some 14, none, .fld 6 (.tmp 13)⟩, []),
      (⟨some 15, none, .load1 (.tmp 14)⟩, []),
      (⟨some 16, none, .mv (.tmp 0)⟩, []),
      (⟨some 17, none, .nil (.tmp 16)⟩, []),
      (⟨some 18, none, .fld 13 (.tmp 17)⟩, []),
      (⟨some 19, none, .fld 3 (.tmp 18)⟩, []),
      (⟨some 20, none, .load1 (.tmp 19)⟩, []),
      (⟨some 2, none, .mv (.tmp 11)⟩, []),
      (⟨some 3, none, .mv (.tmp 15)⟩, []),
      (⟨some 4, none, .mv (.tmp 20)⟩, [])])
    (.ret)))),
 [.tmp 2, .tmp 3, .tmp 4]⟩

/-- reg.Right -/
def a_reg_Right : AFn := ⟨28,
 (.seq
  (.ops [
    ⟨some 1, none, .box t_reg_State (.tmp 0)⟩,
    ⟨some 2, none, .mv (.const (.bool false))⟩])
  (.seq
   (.ops [
     ⟨some 3, none, .fld 0 (.tmp 1)⟩,
     ⟨some 4, none, .loadN 6 (.tmp 3)⟩,
     ⟨some 5, none, .call n_view_Right [(.tmp 4)]⟩,
     ⟨some 6, none, .mv (.tmp 5)⟩,
     ⟨some 7, some (6, true), .fld 6 (.tmp 1)⟩,
     ⟨some 8, some (6, true), .load1 (.tmp 7)⟩,
     ⟨some 9, some (6, true), .gen (.call ⟨.builtin .len, #[(.tmp 8)], #[t_string]⟩) t_int⟩,
     ⟨some 10, some (6, true), .bin .leq t_int (.tmp 9) (.const (.int .i64 64))⟩,
     ⟨some 11, none, .pick (.tmp 6) (.tmp 10) (.const (.bool false))⟩,
     ⟨some 12, none, .mv (.tmp 11)⟩,
     ⟨some 13, some (12, true), .fld 7 (.tmp 1)⟩,
     ⟨some 14, some (12, true), .load1 (.tmp 13)⟩,
     ⟨some 15, some (12, true), .gen (.call ⟨.builtin .len, #[(.tmp 14)], #[t_string]⟩) t_int⟩,
     ⟨some 16, some (12, true), .bin .leq t_int (.tmp 15) (.const (.int .i64 256))⟩,
     ⟨some 17, none, .pick (.tmp 12) (.tmp 16) (.const (.bool false))⟩,
     ⟨some 18, none, .mv (.tmp 17)⟩,
     ⟨some 19, some (18, true), .fld 8 (.tmp 1)⟩,
     ⟨some 20, some (18, true), .load1 (.tmp 19)⟩,
     ⟨some 21, some (18, true), .bin .leq t_uint64 (.tmp 20) (.const (.int .u64 4611686018427387903))⟩,
     ⟨some 22, none, .pick (.tmp 18) (.tmp 21) (.const (.bool false))⟩,
     ⟨some 23, none, .mv (.tmp 22)⟩,
     ⟨some 24, some (23, true), .fld 9 (.tmp 1)⟩,
     ⟨some 25, some (23, true), .load1 (.tmp 24)⟩,
     ⟨some 26, some (23, true), .bin .leq t_uint64 (.tmp 25) (.const (.int .u64 4611686018427387903))⟩,
     ⟨some 27, none, .pick (.tmp 23) (.tmp 26) (.const (.bool false))⟩,
     ⟨some 2, none, .mv (.tmp 27)⟩])
   (.ret))),
 [.tmp 2]⟩

/-- (*term.Term).Title -/
def a_term_Term_Title : AFn := ⟨9,
 (.seq
  (.ops [
    ⟨some 2, none, .mv (.const (.string .empty))⟩])
  (.seq
   (.seq
    (.ops [
      ⟨some 3, none, .mv (.tmp 0)⟩,
      ⟨some 4, none, .bin .eql t_P_term_Term (.tmp 3) (.const (.pointer none))⟩])
    (.cond (.tmp 4)
     (.seq
      (.ops [
        ⟨some 2, none, .mv (.const (.string .empty))⟩])
      (.ret))
     (.skip)))
   (.seq
    (.ops [
      ⟨some 5, none, .mv (.tmp 0)⟩,
      ⟨some 6, none, .nil (.tmp 5)⟩,
      ⟨some 7, none, .fld 63 (.tmp 6)⟩,
      ⟨some 8, none, .load1 (.tmp 7)⟩,
      ⟨some 2, none, .mv (.tmp 8)⟩])
    (.ret)))),
 [.tmp 2]⟩

/-- (*term.Term).Bells -/
def a_term_Term_Bells : AFn := ⟨9,
 (.seq
  (.ops [
    ⟨some 2, none, .mv (.const (.int .i64 0))⟩])
  (.seq
   (.seq
    (.ops [
      ⟨some 3, none, .mv (.tmp 0)⟩,
      ⟨some 4, none, .bin .eql t_P_term_Term (.tmp 3) (.const (.pointer none))⟩])
    (.cond (.tmp 4)
     (.seq
      (.ops [
        ⟨some 2, none, .mv (.const (.int .i64 0))⟩])
      (.ret))
     (.skip)))
   (.seq
    (.ops [
      ⟨some 5, none, .mv (.tmp 0)⟩,
      ⟨some 6, none, .nil (.tmp 5)⟩,
      ⟨some 7, none, .fld 66 (.tmp 6)⟩,
      ⟨some 8, none, .load1 (.tmp 7)⟩,
      ⟨some 2, none, .mv (.tmp 8)⟩])
    (.ret)))),
 [.tmp 2]⟩

/-- (*grid.Grid).Rows -/
def a_grid_Grid_Rows : AFn := ⟨10,
 (.seq
  (.ops [
    ⟨some 2, none, .mv (.const (.int .i64 0))⟩])
  (.seq
   (.seq
    (.ops [
      ⟨some 3, none, .mv (.tmp 0)⟩,
      ⟨some 4, none, .bin .eql t_P_grid_Grid (.tmp 3) (.const (.pointer none))⟩])
    (.cond (.tmp 4)
     (.seq
      (.ops [
        ⟨some 2, none, .mv (.const (.int .i64 0))⟩])
      (.ret))
     (.skip)))
   (.seq
    (.ops [
      ⟨some 5, none, .mv (.tmp 0)⟩,
      ⟨some 6, none, .nil (.tmp 5)⟩,
      ⟨some 7, none, .fld 1 (.tmp 6)⟩,
      ⟨some 8, none, .load1 (.tmp 7)⟩,
      ⟨some 9, none, .len (.tmp 8)⟩,
      ⟨some 2, none, .mv (.tmp 9)⟩])
    (.ret)))),
 [.tmp 2]⟩

/-- longlineref20.Right -/
def a_ref20_Right : AFn := ⟨66,
 (.seq
  (.ops [
    ⟨some 1, none, .box t_longlineref20_View (.tmp 0)⟩,
    ⟨some 2, none, .mv (.const (.bool false))⟩])
  (.seq
   (.seq
    (.ops [
      ⟨some 4, none, .fld 0 (.tmp 1)⟩,
      ⟨some 5, none, .fld 0 (.tmp 4)⟩,
      ⟨some 6, none, .load1 (.tmp 5)⟩,
      ⟨some 7, none, .bin .lss t_int (.tmp 6) (.const (.int .i64 1))⟩,
      ⟨some 8, none, .mv (.tmp 7)⟩,
      ⟨some 9, some (8, false), .fld 0 (.tmp 1)⟩,
      ⟨some 10, some (8, false), .fld 0 (.tmp 9)⟩,
      ⟨some 11, some (8, false), .load1 (.tmp 10)⟩,
      ⟨some 12, some (8, false), .bin .gtr t_int (.tmp 11) (.const (.int .i64 12))⟩,
      ⟨some 13, none, .pick (.tmp 8) (.const (.bool true)) (.tmp 12)⟩,
      ⟨some 14, none, .mv (.tmp 13)⟩,
      ⟨some 15, some (14, false), .fld 0 (.tmp 1)⟩,
      ⟨some 16, some (14, false), .fld 1 (.tmp 15)⟩,
      ⟨some 17, some (14, false), .load1 (.tmp 16)⟩,
      ⟨some 18, some (14, false), .bin .lss t_int (.tmp 17) (.const (.int .i64 1))⟩,
      ⟨some 19, none, .pick (.tmp 14) (.const (.bool true)) (.tmp 18)⟩,
      ⟨some 20, none, .mv (.tmp 19)⟩,
      ⟨some 21, some (20, false), .fld 0 (.tmp 1)⟩,
      ⟨some 22, some (20, false), .fld 1 (.tmp 21)⟩,
      ⟨some 23, some (20, false), .load1 (.tmp 22)⟩,
      ⟨some 24, some (20, false), .bin .gtr t_int (.tmp 23) (.const (.int .i64 40))⟩,
      ⟨some 25, none, .pick (.tmp 20) (.const (.bool true)) (.tmp 24)⟩,
      ⟨some 26, none, .mv (.tmp 25)⟩,
      ⟨some 27, some (26, false), .fld 0 (.tmp 1)⟩,
      ⟨some 28, some (26, false), .fld 2 (.tmp 27)⟩,
      ⟨some 29, some (26, false), .load1 (.tmp 28)⟩,
      ⟨some 30, some (26, false), .len (.tmp 29)⟩,
      ⟨some 31, some (26, false), .fld 0 (.tmp 1)⟩,
      ⟨some 32, some (26, false), .fld 0 (.tmp 31)⟩,
      ⟨some 33, some (26, false), .load1 (.tmp 32)⟩,
      ⟨some 34, some (26, false), .fld 0 (.tmp 1)⟩,
      ⟨some 35, some (26, false), .fld 1 (.tmp 34)⟩,
      ⟨some 36, some (26, false), .load1 (.tmp 35)⟩,
      ⟨some 37, some (26, false), .bin .mul t_int (.tmp 33) (.tmp 36)⟩,
      ⟨some 38, some (26, false), .bin .neq t_int (.tmp 30) (.tmp 37)⟩,
      ⟨some 39, none, .pick (.tmp 26) (.const (.bool true)) (.tmp 38)⟩,
      ⟨some 40, none, .mv (.tmp 39)⟩,
      ⟨some 41, some (40, false), .fld 0 (.tmp 1)⟩,
      ⟨some 42, some (40, false), .loadN 3 (.tmp 41)⟩,
      ⟨some 43, some (40, false), .fld 3 (.tmp 1)⟩,
      ⟨some 44, some (40, false), .load1 (.tmp 43)⟩,
      ⟨some 45, some (40, false), .fld 4 (.tmp 1)⟩,
      ⟨some 46, some (40, false), .load1 (.tmp 45)⟩,
      ⟨some 47, some (40, false), .call n_ref17_Grid_Has [(.tmp 42), (.tmp 44), (.tmp 46)]⟩,
      ⟨some 48, some (40, false), .not (.tmp 47)⟩,
      ⟨some 49, none, .pick (.tmp 40) (.const (.bool true)) (.tmp 48)⟩])
    (.cond (.tmp 49)
     (.seq
      (.ops [
        ⟨some 2, none, .mv (.const (.bool false))⟩])
      (.ret))
     (.skip)))
   (.seq
    (.seq
     (.ops [
       ⟨some 3, none, .mv (.const (.int .i64 0))⟩])
     (.block 0
      (.loop
       (.seq
        (.seq
         (.ops [
           ⟨some 50, none, .mv (.tmp 3)⟩,
           ⟨some 51, none, .fld 0 (.tmp 1)⟩,
           ⟨some 52, none, .fld 2 (.tmp 51)⟩,
           ⟨some 53, none, .load1 (.tmp 52)⟩,
           ⟨some 54, none, .len (.tmp 53)⟩,
           ⟨some 55, none, .bin .lss t_int (.tmp 50) (.tmp 54)⟩])
         (.cond (.tmp 55)
          (.skip)
          (.exit 0)))
        (.seq
         (.block 1
          (.seq
           (.ops [
             ⟨some 58, none, .fld 0 (.tmp 1)⟩,
             ⟨some 59, none, .fld 2 (.tmp 58)⟩,
             ⟨some 60, none, .load1 (.tmp 59)⟩,
             ⟨some 61, none, .mv (.tmp 3)⟩,
             ⟨some 62, none, .idxS 11 (.tmp 60) (.tmp 61)⟩,
             ⟨some 63, none, .loadN 11 (.tmp 62)⟩,
             ⟨some 64, none, .call n_ref20_IsCell [(.tmp 63)]⟩,
             ⟨some 65, none, .not (.tmp 64)⟩])
           (.cond (.tmp 65)
            (.seq
             (.ops [
               ⟨some 2, none, .mv (.const (.bool false))⟩])
             (.ret))
            (.skip))))
         (.ops [
           ⟨some 56, none, .mv (.tmp 3)⟩,
           ⟨some 57, none, .bin .add t_int (.tmp 56) (.const (.int .i64 1))⟩,
           ⟨some 3, none, .mv (.tmp 57)⟩]))))))
    (.seq
     (.ops [
       ⟨some 2, none, .mv (.const (.bool true))⟩])
     (.ret))))),
 [.tmp 2]⟩

/-- utf.New -/
def a_utf_New : AFn := ⟨3,
 (.seq
  (.ops [
    ⟨some 0, none, .mv (.const (.pointer none))⟩])
  (.seq
   (.ops [
     ⟨some 1, none, .gen (.build t_utf_Reader #[(0, (.const (.bool true)))]) t_utf_Reader⟩,
     ⟨some 2, none, .box t_utf_Reader (.tmp 1)⟩,
     ⟨some 0, none, .mv (.tmp 2)⟩])
   (.ret))),
 [.tmp 0]⟩

/-- ansi.New -/
def a_ansi_New : AFn := ⟨3,
 (.seq
  (.ops [
    ⟨some 0, none, .mv (.const (.pointer none))⟩])
  (.seq
   (.ops [
     ⟨some 1, none, .gen (.build t_ansi_Parser #[(0, (.const (.bool true)))]) t_ansi_Parser⟩,
     ⟨some 2, none, .box t_ansi_Parser (.tmp 1)⟩,
     ⟨some 0, none, .mv (.tmp 2)⟩])
   (.ret))),
 [.tmp 0]⟩

/-- grid.New -/
def a_grid_New : AFn := ⟨31,
 (.seq
  (.ops [
    ⟨some 4, none, .mv (.const (.pointer none))⟩,
    ⟨some 5, none, .mv (.const (.int .i64 0))⟩])
  (.seq
   (.seq
    (.ops [
      ⟨some 7, none, .mv (.tmp 0)⟩,
      ⟨some 8, none, .mv (.tmp 1)⟩,
      ⟨some 9, none, .call n_grid_fits [(.tmp 7), (.tmp 8)]⟩,
      ⟨some 10, none, .not (.tmp 9)⟩])
    (.cond (.tmp 10)
     (.seq
      (.ops [
        ⟨some 4, none, .mv (.const (.pointer none))⟩,
        ⟨some 5, none, .mv (.const (.int .i64 1))⟩])
      (.ret))
     (.skip)))
   (.seq
    (.ops [
      ⟨some 11, none, .mv (.tmp 1)⟩,
      ⟨some 12, none, .gen (.build t_grid_Grid #[(0, (.tmp 11))]) t_grid_Grid⟩,
      ⟨some 13, none, .box t_grid_Grid (.tmp 12)⟩,
      ⟨some 6, none, .mv (.tmp 13)⟩])
    (.seq
     (.seq
      (.ops [
        ⟨some 14, none, .mv (.tmp 0)⟩,
        ⟨some 15, none, .mv (.const (.int .i64 0))⟩])
      (.block 0
       (.loop
        (.seq
         (.ops [
           ⟨some 16, none, .bin .lss t_int (.tmp 15) (.tmp 14)⟩])
         (.seq
          (.cond (.tmp 16)
           (.skip)
           (.exit 0))
          (.seq
           (.block 1
            (.plan [
              (⟨some 17, none, .mv (.tmp 6)⟩, []),
              (⟨some 18, none, .mv (.tmp 6)⟩, []),
              (⟨some 19, none, .nil (.tmp 18)⟩, []),
              (⟨some 20, none, .fld 1 (.tmp 19)⟩, []),
              (⟨some 21, none, .load1 (.tmp 20)⟩, []),
              (⟨some 22, none, .mv (.tmp 1)⟩, []),
              (⟨some 23, none, .call n_grid_Blank []⟩, [⟨some 21, none, .load1 (.tmp 20)⟩]),
              (⟨some 24, none, .call n_grid_line [(.tmp 22), (.tmp 23)]⟩, [⟨some 21, none, .load1 (.tmp 20)⟩]),
              (⟨some 25, none, .gen (.buildSlice t_S_S_grid_Cell 1 #[(0, (.tmp 24))]) t_S_S_grid_Cell⟩, [⟨some 21, none, .load1 (.tmp 20)⟩]),
              (⟨some 26, none, .gen (.call ⟨.builtin .append, #[(.tmp 21), (.tmp 25)], #[t_S_S_grid_Cell, t_S_S_grid_Cell]⟩) t_S_S_grid_Cell⟩, []),
              (⟨some 27, none, .nil (.tmp 17)⟩, []),
              (⟨some 28, none, .fld 1 (.tmp 27)⟩, []),
              (⟨none, none, .store 1 (.tmp 28) (.tmp 26)⟩, [])]))
           (.ops [
             ⟨some 29, none, .bin .add t_int (.tmp 15) (.const (.int .i64 1))⟩,
             ⟨some 15, none, .mv (.tmp 29)⟩])))))))
     (.seq
      (.ops [
        ⟨some 30, none, .mv (.tmp 6)⟩,
        ⟨some 4, none, .mv (.tmp 30)⟩,
        ⟨some 5, none, .mv (.const (.int .i64 0))⟩])
      (.ret)))))),
 [.tmp 4, .tmp 5]⟩

/-- (*term.Term).reset -/
def a_term_Term_reset : AFn := ⟨63,
 (.seq
  (.seq
   (.ops [
     ⟨some 6, none, .mv (.tmp 0)⟩,
     ⟨some 7, none, .nil (.tmp 6)⟩,
     ⟨some 8, none, .fld 2 (.tmp 7)⟩,
     ⟨some 9, none, .loadN 2 (.tmp 8)⟩,
     ⟨some 10, none, .mv (.const (.int .i64 0))⟩])
   (.block 0
    (.loop
     (.seq
      (.ops [
        ⟨some 11, none, .bin .lss t_int (.tmp 10) (.const (.int .i64 2))⟩])
      (.seq
       (.cond (.tmp 11)
        (.skip)
        (.exit 0))
       (.seq
        (.block 1
         (.seq
          (.ops [
            ⟨some 12, none, .gen (.index t_2_P_grid_Grid (.tmp 9) (.tmp 10)) t_P_grid_Grid⟩,
            ⟨some 3, none, .mv (.tmp 12)⟩])
          (.seq
           (.ops [
             ⟨some 13, none, .mv (.tmp 3)⟩,
             ⟨some 14, none, .call n_grid_Grid_Rows [(.tmp 13)]⟩,
             ⟨some 15, none, .mv (.const (.int .i64 0))⟩])
           (.block 2
            (.loop
             (.seq
              (.ops [
                ⟨some 16, none, .bin .lss t_int (.tmp 15) (.tmp 14)⟩])
              (.seq
               (.cond (.tmp 16)
                (.skip)
                (.exit 2))
               (.seq
                (.block 3
                 (.seq
                  (.ops [
                    ⟨some 17, none, .mv (.tmp 15)⟩,
                    ⟨some 4, none, .mv (.tmp 17)⟩])
                  (.ops [
                    ⟨some 18, none, .mv (.tmp 3)⟩,
                    ⟨some 19, none, .mv (.tmp 4)⟩,
                    ⟨some 20, none, .call n_grid_Blank []⟩,
                    ⟨some 21, none, .call n_grid_Grid_Fill [(.tmp 18), (.tmp 19), (.const (.int .i64 0)), (.const (.int .i64 40)), (.tmp 20)]⟩])))
                (.ops [
                  ⟨some 22, none, .bin .add t_int (.tmp 15) (.const (.int .i64 1))⟩,
                  ⟨some 15, none, .mv (.tmp 22)⟩])))))))))
        (.ops [
          ⟨some 23, none, .bin .add t_int (.tmp 10) (.const (.int .i64 1))⟩,
          ⟨some 10, none, .mv (.tmp 23)⟩])))))))
  (.seq
   (.ops [
     ⟨some 24, none, .mv (.tmp 0)⟩,
     ⟨some 25, none, .mv (.tmp 0)⟩,
     ⟨some 26, none, .mv (.tmp 0)⟩,
     ⟨some 27, none, .gen (.build t_style_Style #[]) t_style_Style⟩,
     ⟨some 28, none, .gen (.build t_term_saved #[]) t_term_saved⟩,
     ⟨some 29, none, .nil (.tmp 24)⟩,
     ⟨some 30, none, .fld 4 (.tmp 29)⟩,
     ⟨none, none, .store 1 (.tmp 30) (.const (.int .i64 0))⟩,
     ⟨some 31, none, .nil (.tmp 25)⟩,
     ⟨some 32, none, .fld 8 (.tmp 31)⟩,
     ⟨none, none, .store 3 (.tmp 32) (.tmp 27)⟩,
     ⟨some 33, none, .nil (.tmp 26)⟩,
     ⟨some 34, none, .fld 57 (.tmp 33)⟩,
     ⟨none, none, .store 6 (.tmp 34) (.tmp 28)⟩])
   (.seq
    (.ops [
      ⟨some 35, none, .mv (.tmp 0)⟩,
      ⟨some 36, none, .gen (.build t_term_modes #[(0, (.const (.bool true))), (3, (.const (.bool true)))]) t_term_modes⟩,
      ⟨some 37, none, .nil (.tmp 35)⟩,
      ⟨some 38, none, .fld 13 (.tmp 37)⟩,
      ⟨none, none, .store 4 (.tmp 38) (.tmp 36)⟩])
    (.seq
     (.seq
      (.ops [
        ⟨some 39, none, .mv (.const (.int .i64 0))⟩])
      (.block 4
       (.loop
        (.seq
         (.ops [
           ⟨some 40, none, .bin .lss t_int (.tmp 39) (.const (.int .i64 40))⟩])
         (.seq
          (.cond (.tmp 40)
           (.skip)
           (.exit 4))
          (.seq
           (.block 5
            (.seq
             (.ops [
               ⟨some 41, none, .mv (.tmp 39)⟩,
               ⟨some 5, none, .mv (.tmp 41)⟩])
             (.ops [
               ⟨some 42, none, .mv (.tmp 0)⟩,
               ⟨some 43, none, .mv (.tmp 5)⟩,
               ⟨some 44, none, .mv (.tmp 5)⟩,
               ⟨some 45, none, .bin .gtr t_int (.tmp 44) (.const (.int .i64 0))⟩,
               ⟨some 46, none, .mv (.tmp 45)⟩,
               ⟨some 47, some (46, true), .mv (.tmp 5)⟩,
               ⟨some 48, some (46, true), .bin .rem t_int (.tmp 47) (.const (.int .i64 8))⟩,
               ⟨some 49, some (46, true), .bin .eql t_int (.tmp 48) (.const (.int .i64 0))⟩,
               ⟨some 50, none, .pick (.tmp 46) (.tmp 49) (.const (.bool false))⟩,
               ⟨some 51, none, .nil (.tmp 42)⟩,
               ⟨some 52, none, .fld 17 (.tmp 51)⟩,
               ⟨some 53, none, .idxA 40 1 (.tmp 52) (.tmp 43)⟩,
               ⟨none, none, .store 1 (.tmp 53) (.tmp 50)⟩])))
           (.ops [
             ⟨some 54, none, .bin .add t_int (.tmp 39) (.const (.int .i64 1))⟩,
             ⟨some 39, none, .mv (.tmp 54)⟩])))))))
     (.seq
      (.ops [
        ⟨some 55, none, .mv (.tmp 0)⟩,
        ⟨some 56, none, .mv (.tmp 0)⟩,
        ⟨some 57, none, .call n_term_Term_g [(.tmp 56)]⟩,
        ⟨some 58, none, .call n_grid_Grid_Rows [(.tmp 57)]⟩,
        ⟨some 59, none, .bin .sub t_int (.tmp 58) (.const (.int .i64 1))⟩,
        ⟨some 60, none, .call n_term_Term_region [(.tmp 55), (.const (.int .i64 0)), (.tmp 59)]⟩])
      (.ops [
        ⟨some 61, none, .mv (.tmp 0)⟩,
        ⟨some 62, none, .call n_term_Term_move [(.tmp 61), (.const (.int .i64 0)), (.const (.int .i64 0))]⟩])))))),
 []⟩

/-- reg.First -/
def a_reg_First : AFn := ⟨3,
 (.seq
  (.ops [
    ⟨some 0, none, .new t_reg_State [(.int .i64 0), (.int .i64 0), (.slice none 0 0), (.int .i64 0), (.int .i64 0), (.bool false), (.string .empty), (.string .empty), (.int .u64 0), (.int .u64 0)]⟩])
  (.seq
   (.ops [
     ⟨some 1, none, .call n_view_First []⟩,
     ⟨some 2, none, .gen (.build t_reg_State #[(0, (.tmp 1))]) t_reg_State⟩,
     ⟨none, none, .store 10 (.tmp 0) (.tmp 2)⟩])
   (.ret))),
 [.cell 0 t_reg_State]⟩

/-- longlinelaw35.wide -/
def a_law35_wide : AFn := ⟨50,
 (.seq
  (.ops [
    ⟨some 2, none, .new t_reg_State [(.int .i64 0), (.int .i64 0), (.slice none 0 0), (.int .i64 0), (.int .i64 0), (.bool false), (.string .empty), (.string .empty), (.int .u64 0), (.int .u64 0)]⟩])
  (.seq
   (.ops [
     ⟨some 5, none, .call n_reg_First []⟩,
     ⟨some 3, none, .new t_reg_State [(.int .i64 0), (.int .i64 0), (.slice none 0 0), (.int .i64 0), (.int .i64 0), (.bool false), (.string .empty), (.string .empty), (.int .u64 0), (.int .u64 0)]⟩,
     ⟨none, none, .store 10 (.tmp 3) (.tmp 5)⟩])
   (.seq
    (.ops [
      ⟨some 6, none, .fld 0 (.tmp 3)⟩,
      ⟨some 7, none, .fld 1 (.tmp 6)⟩,
      ⟨none, none, .store 1 (.tmp 7) (.const (.int .i64 5))⟩])
    (.seq
     (.block 0
      (.loop
       (.seq
        (.seq
         (.ops [
           ⟨some 8, none, .fld 0 (.tmp 3)⟩,
           ⟨some 9, none, .fld 2 (.tmp 8)⟩,
           ⟨some 10, none, .load1 (.tmp 9)⟩,
           ⟨some 11, none, .len (.tmp 10)⟩,
           ⟨some 12, none, .bin .lss t_int (.tmp 11) (.const (.int .i64 5))⟩])
         (.cond (.tmp 12)
          (.skip)
          (.exit 0)))
        (.block 1
         (.plan [
           (⟨some 13, none, .fld 0 (.tmp 3)⟩, []),
           (⟨some 14, none, .fld 2 (.tmp 13)⟩, []),
           (⟨some 15, none, .load1 (.tmp 14)⟩, []),
           (⟨some 16, none, .fld 0 (.tmp 3)⟩, []),
           (⟨some 17, none, .fld 2 (.tmp 16)⟩, []),
           (⟨some 18, none, .load1 (.tmp 17)⟩, []),
           (⟨some 19, none, .idxS 4 (.tmp 18) (.const (.int .i64 0))⟩, []),
           (⟨some 20, none, .loadN 4 (.tmp 19)⟩, []),
           (⟨some 21, none, .gen (.buildSlice t_S_grid_Cell 1 #[(0, (.tmp 20))]) t_S_grid_Cell⟩, [⟨some 15, none, .load1 (.tmp 14)⟩]),
           (⟨some 22, none, .gen (.call ⟨.builtin .append, #[(.tmp 15), (.tmp 21)], #[t_S_grid_Cell, t_S_grid_Cell]⟩) t_S_grid_Cell⟩, []),
           (⟨some 23, none, .fld 0 (.tmp 3)⟩, []),
           (⟨some 24, none, .fld 2 (.tmp 23)⟩, []),
           (⟨none, none, .store 1 (.tmp 24) (.tmp 22)⟩, [])])))))
     (.seq
      (.seq
       (.ops [
         ⟨some 4, none, .mv (.const (.int .i64 0))⟩])
       (.block 2
        (.loop
         (.seq
          (.seq
           (.ops [
             ⟨some 25, none, .mv (.tmp 4)⟩,
             ⟨some 26, none, .mv (.tmp 0)⟩,
             ⟨some 27, none, .gen (.call ⟨.builtin .len, #[(.tmp 26)], #[t_string]⟩) t_int⟩,
             ⟨some 28, none, .bin .lss t_int (.tmp 25) (.tmp 27)⟩,
             ⟨some 29, none, .mv (.tmp 28)⟩,
             ⟨some 30, some (29, true), .mv (.tmp 4)⟩,
             ⟨some 31, some (29, true), .bin .lss t_int (.tmp 30) (.const (.int .i64 4))⟩,
             ⟨some 32, none, .pick (.tmp 29) (.tmp 31) (.const (.bool false))⟩])
           (.cond (.tmp 32)
            (.skip)
            (.exit 2)))
          (.seq
           (.block 3
            (.seq
             (.plan [
               (⟨some 35, none, .fld 0 (.tmp 3)⟩, []),
               (⟨some 36, none, .fld 2 (.tmp 35)⟩, []),
               (⟨some 37, none, .load1 (.tmp 36)⟩, []),
               (⟨some 38, none, .mv (.tmp 4)⟩, []),
               (⟨some 39, none, .mv (.tmp 0)⟩, []),
               (⟨some 40, none, .mv (.tmp 4)⟩, []),
               (⟨some 41, none, .gen (.index t_string (.tmp 39) (.tmp 40)) t_uint8⟩, []),
               (⟨some 42, none, .gen (.convert t_uint8 t_int32 (.tmp 41)) t_int32⟩, []),
               (⟨some 43, none, .idxS 4 (.tmp 37) (.tmp 38)⟩, []),
               (⟨some 44, none, .fld 0 (.tmp 43)⟩, []),
               (⟨none, none, .store 1 (.tmp 44) (.tmp 42)⟩, [])])
             (.ops [
               ⟨some 45, none, .mv (.tmp 4)⟩,
               ⟨some 46, none, .bin .add t_int (.tmp 45) (.const (.int .i64 1))⟩,
               ⟨some 47, none, .fld 0 (.tmp 3)⟩,
               ⟨some 48, none, .fld 4 (.tmp 47)⟩,
               ⟨none, none, .store 1 (.tmp 48) (.tmp 46)⟩])))
           (.ops [
             ⟨some 33, none, .mv (.tmp 4)⟩,
             ⟨some 34, none, .bin .add t_int (.tmp 33) (.const (.int .i64 1))⟩,
             ⟨some 4, none, .mv (.tmp 34)⟩]))))))
      (.seq
       (.ops [
         ⟨some 49, none, .loadN 10 (.tmp 3)⟩,
         ⟨none, none, .store 10 (.tmp 2) (.tmp 49)⟩])
       (.ret))))))),
 [.cell 2 t_reg_State]⟩

/-- (*echo.Echo).rest -/
def a_echo_Echo_rest : AFn := ⟨10,
 (.ops [
   ⟨some 2, none, .mv (.tmp 0)⟩,
   ⟨some 3, none, .mv (.tmp 0)⟩,
   ⟨some 4, none, .mv (.tmp 0)⟩,
   ⟨some 5, none, .call n_echo_Echo_cursor [(.tmp 4)]⟩,
   ⟨some 6, none, .nil (.tmp 2)⟩,
   ⟨some 7, none, .fld 11 (.tmp 6)⟩,
   ⟨none, none, .store 1 (.tmp 7) (.const (.slice none 0 0))⟩,
   ⟨some 8, none, .nil (.tmp 3)⟩,
   ⟨some 9, none, .fld 12 (.tmp 8)⟩,
   ⟨none, none, .store 2 (.tmp 9) (.tmp 5)⟩]),
 []⟩

/-- (*echo.Echo).is -/
def a_echo_Echo_is : AFn := ⟨11,
 (.seq
  (.ops [
    ⟨some 2, none, .mv (.const (.bool false))⟩])
  (.seq
   (.ops [
     ⟨some 3, none, .mv (.tmp 0)⟩,
     ⟨some 4, none, .bin .neq t_P_echo_Echo (.tmp 3) (.const (.pointer none))⟩,
     ⟨some 5, none, .mv (.tmp 4)⟩,
     ⟨some 6, some (5, true), .mv (.tmp 0)⟩,
     ⟨some 7, some (5, true), .nil (.tmp 6)⟩,
     ⟨some 8, some (5, true), .fld 0 (.tmp 7)⟩,
     ⟨some 9, some (5, true), .load1 (.tmp 8)⟩,
     ⟨some 10, none, .pick (.tmp 5) (.tmp 9) (.const (.bool false))⟩,
     ⟨some 2, none, .mv (.tmp 10)⟩])
   (.ret))),
 [.tmp 2]⟩

/-- slices.Clone[[]grid.Cell,grid.Cell] -/
def a_slices_Clone_grid_Cell_grid_Cell : AFn := ⟨8,
 (.seq
  (.ops [
    ⟨some 2, none, .mv (.const (.slice none 0 0))⟩])
  (.seq
   (.seq
    (.ops [
      ⟨some 3, none, .mv (.tmp 0)⟩,
      ⟨some 4, none, .bin .eql t_S_grid_Cell (.tmp 3) (.const (.slice none 0 0))⟩])
    (.cond (.tmp 4)
     (.seq
      (.ops [
        ⟨some 2, none, .mv (.const (.slice none 0 0))⟩])
      (.ret))
     (.skip)))
   (.seq
    (.ops [
      ⟨some 5, none, .gen (.buildSlice t_S_grid_Cell 0 #[]) t_S_grid_Cell⟩,
      ⟨some 6, none, .mv (.tmp 0)⟩,
      ⟨some 7, none, .gen (.call ⟨.builtin .append, #[(.tmp 5), (.tmp 6)], #[t_S_grid_Cell, t_S_grid_Cell]⟩) t_S_grid_Cell⟩,
      ⟨some 2, none, .mv (.tmp 7)⟩])
    (.ret)))),
 [.tmp 2]⟩

/-- (*echo.Echo).right -/
def a_echo_Echo_right : AFn := ⟨33,
 (.seq
  (.ops [
    ⟨some 3, none, .box t_echo_Guess (.tmp 1)⟩,
    ⟨some 4, none, .mv (.const (.bool false))⟩])
  (.seq
   (.plan [
     (⟨some 6, none, .mv (.tmp 0)⟩, []),
     (⟨some 7, none, .nil (.tmp 6)⟩, []),
     (⟨some 8, none, .fld 1 (.tmp 7)⟩, []),
     (⟨some 9, none, .fld 0 (.tmp 8)⟩, []),
     (⟨some 10, none, .loadN 6 (.tmp 9)⟩, []),
     (⟨some 11, none, .fld 1 (.tmp 3)⟩, []),
     (⟨some 12, none, .load1 (.tmp 11)⟩, []),
     (⟨some 13, none, .fld 2 (.tmp 3)⟩, []),
     (⟨some 14, none, .load1 (.tmp 13)⟩, []),
     (⟨some 15, none, .call n_echo_index [(.tmp 10), (.tmp 12), (.tmp 14)]⟩, []),
     (⟨some 5, none, .mv (.tmp 15)⟩, [])])
   (.seq
    (.plan [
      (⟨some 16, none, .mv (.tmp 5)⟩, []),
      (⟨some 17, none, .bin .geq t_int (.tmp 16) (.const (.int .i64 0))⟩, []),
      (⟨some 18, none, .mv (.tmp 17)⟩, []),
      (⟨some 19, some (18, true), .mv (.tmp 0)⟩, []),
      (⟨some 20, some (18, true), .nil (.tmp 19)⟩, []),
      (⟨some 21, some (18, true), .fld 1 (.tmp 20)⟩, []),
      (⟨some 22, some (18, true), .fld 0 (.tmp 21)⟩, []),
      (⟨some 23, some (18, true), .fld 2 (.tmp 22)⟩, []),
      (⟨some 24, some (18, true), .load1 (.tmp 23)⟩, []),
      (⟨some 25, some (18, true), .mv (.tmp 5)⟩, []),
      (⟨some 26, some (18, true), .idxS 4 (.tmp 24) (.tmp 25)⟩, []),
      (⟨some 27, some (18, true), .fld 0 (.tmp 26)⟩, []),
      (⟨some 28, some (18, true), .load1 (.tmp 27)⟩, []),
      (⟨some 29, some (18, true), .fld 3 (.tmp 3)⟩, []),
      (⟨some 30, some (18, true), .load1 (.tmp 29)⟩, []),
      (⟨some 31, some (18, true), .bin .eql t_int32 (.tmp 28) (.tmp 30)⟩, []),
      (⟨some 32, none, .pick (.tmp 18) (.tmp 31) (.const (.bool false))⟩, []),
      (⟨some 4, none, .mv (.tmp 32)⟩, [])])
    (.ret)))),
 [.tmp 4]⟩

/-- (*echo.Echo).giveUp -/
def a_echo_Echo_giveUp : AFn := ⟨7,
 (.seq
  (.ops [
    ⟨some 2, none, .mv (.tmp 0)⟩,
    ⟨some 3, none, .call n_echo_Echo_rest [(.tmp 2)]⟩])
  (.ops [
    ⟨some 4, none, .mv (.tmp 0)⟩,
    ⟨some 5, none, .nil (.tmp 4)⟩,
    ⟨some 6, none, .fld 14 (.tmp 5)⟩,
    ⟨none, none, .store 1 (.tmp 6) (.const (.bool true))⟩])),
 []⟩

/-- slices.Clone[[]echo.Guess,echo.Guess] -/
def a_slices_Clone_echo_Guess_echo_Guess : AFn := ⟨8,
 (.seq
  (.ops [
    ⟨some 2, none, .mv (.const (.slice none 0 0))⟩])
  (.seq
   (.seq
    (.ops [
      ⟨some 3, none, .mv (.tmp 0)⟩,
      ⟨some 4, none, .bin .eql t_S_echo_Guess (.tmp 3) (.const (.slice none 0 0))⟩])
    (.cond (.tmp 4)
     (.seq
      (.ops [
        ⟨some 2, none, .mv (.const (.slice none 0 0))⟩])
      (.ret))
     (.skip)))
   (.seq
    (.ops [
      ⟨some 5, none, .gen (.buildSlice t_S_echo_Guess 0 #[]) t_S_echo_Guess⟩,
      ⟨some 6, none, .mv (.tmp 0)⟩,
      ⟨some 7, none, .gen (.call ⟨.builtin .append, #[(.tmp 5), (.tmp 6)], #[t_S_echo_Guess, t_S_echo_Guess]⟩) t_S_echo_Guess⟩,
      ⟨some 2, none, .mv (.tmp 7)⟩])
    (.ret)))),
 [.tmp 2]⟩

/-- (*echo.Echo).print -/
def a_echo_Echo_print : AFn := ⟨75,
 (.seq
  (.seq
   (.plan [
     (⟨some 5, none, .mv (.tmp 0)⟩, []),
     (⟨some 6, none, .nil (.tmp 5)⟩, []),
     (⟨some 7, none, .fld 12 (.tmp 6)⟩, []),
     (⟨some 8, none, .fld 1 (.tmp 7)⟩, []),
     (⟨some 9, none, .load1 (.tmp 8)⟩, []),
     (⟨some 10, none, .mv (.tmp 0)⟩, []),
     (⟨some 11, none, .nil (.tmp 10)⟩, []),
     (⟨some 12, none, .fld 1 (.tmp 11)⟩, []),
     (⟨some 13, none, .fld 0 (.tmp 12)⟩, []),
     (⟨some 14, none, .fld 1 (.tmp 13)⟩, []),
     (⟨some 15, none, .load1 (.tmp 14)⟩, []),
     (⟨some 16, none, .bin .sub t_int (.tmp 15) (.const (.int .i64 1))⟩, []),
     (⟨some 17, none, .bin .geq t_int (.tmp 9) (.tmp 16)⟩, []),
     (⟨some 18, none, .mv (.tmp 17)⟩, []),
     (⟨some 19, some (18, false), .mv (.tmp 0)⟩, []),
     (⟨some 20, some (18, false), .nil (.tmp 19)⟩, []),
     (⟨some 21, some (18, false), .fld 11 (.tmp 20)⟩, []),
     (⟨some 22, some (18, false), .load1 (.tmp 21)⟩, []),
     (⟨some 23, some (18, false), .len (.tmp 22)⟩, []),
     (⟨some 24, some (18, false), .bin .geq t_int (.tmp 23) (.const (.int .i64 64))⟩, []),
     (⟨some 25, none, .pick (.tmp 18) (.const (.bool true)) (.tmp 24)⟩, [])])
   (.cond (.tmp 25)
    (.seq
     (.ops [
       ⟨some 26, none, .mv (.tmp 0)⟩,
       ⟨some 27, none, .call n_echo_Echo_giveUp [(.tmp 26)]⟩])
     (.ret))
    (.skip)))
  (.seq
   (.plan [
     (⟨some 28, none, .mv (.tmp 0)⟩, []),
     (⟨some 29, none, .nil (.tmp 28)⟩, []),
     (⟨some 30, none, .fld 15 (.tmp 29)⟩, []),
     (⟨some 31, none, .load1 (.tmp 30)⟩, []),
     (⟨some 32, none, .mv (.tmp 0)⟩, []),
     (⟨some 33, none, .nil (.tmp 32)⟩, []),
     (⟨some 34, none, .fld 12 (.tmp 33)⟩, []),
     (⟨some 35, none, .fld 0 (.tmp 34)⟩, []),
     (⟨some 36, none, .load1 (.tmp 35)⟩, []),
     (⟨some 37, none, .mv (.tmp 0)⟩, []),
     (⟨some 38, none, .nil (.tmp 37)⟩, []),
     (⟨some 39, none, .fld 12 (.tmp 38)⟩, []),
     (⟨some 40, none, .fld 1 (.tmp 39)⟩, []),
     (⟨some 41, none, .load1 (.tmp 40)⟩, []),
     (⟨some 42, none, .mv (.tmp 1)⟩, []),
     (⟨some 43, none, .gen (.convert t_uint8 t_int32 (.tmp 42)) t_int32⟩, []),
     (⟨some 44, none, .gen (.build t_echo_Guess #[(0, (.tmp 31)), (1, (.tmp 36)), (2, (.tmp 41)), (3, (.tmp 43))]) t_echo_Guess⟩, []),
     (⟨some 4, none, .new t_echo_Guess [(.int .u64 0), (.int .i64 0), (.int .i64 0), (.int .i32 0)]⟩, [⟨some 31, none, .load1 (.tmp 30)⟩, ⟨some 36, none, .load1 (.tmp 35)⟩, ⟨some 41, none, .load1 (.tmp 40)⟩]),
     (⟨none, none, .store 4 (.tmp 4) (.tmp 44)⟩, [])])
   (.seq
    (.plan [
      (⟨some 45, none, .mv (.tmp 0)⟩, []),
      (⟨some 46, none, .mv (.tmp 0)⟩, []),
      (⟨some 47, none, .nil (.tmp 46)⟩, []),
      (⟨some 48, none, .fld 11 (.tmp 47)⟩, []),
      (⟨some 49, none, .load1 (.tmp 48)⟩, []),
      (⟨some 50, none, .mv (.tmp 0)⟩, []),
      (⟨some 51, none, .nil (.tmp 50)⟩, []),
      (⟨some 52, none, .fld 11 (.tmp 51)⟩, []),
      (⟨some 53, none, .load1 (.tmp 52)⟩, []),
      (⟨some 54, none, .len (.tmp 53)⟩, []),
      (⟨some 55, none, .mv (.tmp 0)⟩, []),
      (⟨some 56, none, .nil (.tmp 55)⟩, []),
      (⟨some 57, none, .fld 11 (.tmp 56)⟩, []),
      (⟨some 58, none, .load1 (.tmp 57)⟩, []),
      (⟨some 59, none, .len (.tmp 58)⟩, []),
      (⟨some 60, none, .gen (.slice t_S_echo_Guess (.tmp 49) none (some (.tmp 54)) (some (.tmp 59))) t_S_echo_Guess⟩, []),
      (⟨some 61, none, .loadN 4 (.tmp 4)⟩, []),
      (⟨some 62, none, .gen (.buildSlice t_S_echo_Guess 1 #[(0, (.tmp 61))]) t_S_echo_Guess⟩, [⟨some 49, none, .load1 (.tmp 48)⟩, ⟨some 53, none, .load1 (.tmp 52)⟩, ⟨some 58, none, .load1 (.tmp 57)⟩, ⟨some 60, none, .gen (.slice t_S_echo_Guess (.tmp 49) none (some (.tmp 54)) (some (.tmp 59))) t_S_echo_Guess⟩]),
      (⟨some 63, none, .gen (.call ⟨.builtin .append, #[(.tmp 60), (.tmp 62)], #[t_S_echo_Guess, t_S_echo_Guess]⟩) t_S_echo_Guess⟩, []),
      (⟨some 64, none, .nil (.tmp 45)⟩, []),
      (⟨some 65, none, .fld 11 (.tmp 64)⟩, []),
      (⟨none, none, .store 1 (.tmp 65) (.tmp 63)⟩, [])])
    (.ops [
      ⟨some 66, none, .mv (.tmp 0)⟩,
      ⟨some 67, none, .nil (.tmp 66)⟩,
      ⟨some 68, none, .fld 12 (.tmp 67)⟩,
      ⟨some 69, none, .fld 1 (.tmp 68)⟩,
      ⟨some 70, none, .load1 (.tmp 69)⟩,
      ⟨some 71, none, .bin .add t_int (.tmp 70) (.const (.int .i64 1))⟩,
      ⟨some 72, none, .nil (.tmp 66)⟩,
      ⟨some 73, none, .fld 12 (.tmp 72)⟩,
      ⟨some 74, none, .fld 1 (.tmp 73)⟩,
      ⟨none, none, .store 1 (.tmp 74) (.tmp 71)⟩])))),
 []⟩

/-- (*echo.Echo).rub -/
def a_echo_Echo_rub : AFn := ⟨56,
 (.seq
  (.ops [
    ⟨some 4, none, .mv (.tmp 0)⟩,
    ⟨some 5, none, .nil (.tmp 4)⟩,
    ⟨some 6, none, .fld 11 (.tmp 5)⟩,
    ⟨some 7, none, .load1 (.tmp 6)⟩,
    ⟨some 8, none, .len (.tmp 7)⟩,
    ⟨some 9, none, .bin .sub t_int (.tmp 8) (.const (.int .i64 1))⟩,
    ⟨some 2, none, .mv (.tmp 9)⟩])
  (.seq
   (.seq
    (.ops [
      ⟨some 10, none, .mv (.tmp 2)⟩,
      ⟨some 11, none, .bin .lss t_int (.tmp 10) (.const (.int .i64 0))⟩])
    (.cond (.tmp 11)
     (.seq
      (.ops [
        ⟨some 12, none, .mv (.tmp 0)⟩,
        ⟨some 13, none, .call n_echo_Echo_giveUp [(.tmp 12)]⟩])
      (.ret))
     (.skip)))
   (.seq
    (.ops [
      ⟨some 14, none, .mv (.tmp 0)⟩,
      ⟨some 15, none, .nil (.tmp 14)⟩,
      ⟨some 16, none, .fld 11 (.tmp 15)⟩,
      ⟨some 17, none, .load1 (.tmp 16)⟩,
      ⟨some 18, none, .mv (.tmp 2)⟩,
      ⟨some 19, none, .idxS 4 (.tmp 17) (.tmp 18)⟩,
      ⟨some 20, none, .loadN 4 (.tmp 19)⟩,
      ⟨some 3, none, .new t_echo_Guess [(.int .u64 0), (.int .i64 0), (.int .i64 0), (.int .i32 0)]⟩,
      ⟨none, none, .store 4 (.tmp 3) (.tmp 20)⟩])
    (.seq
     (.seq
      (.plan [
        (⟨some 21, none, .fld 1 (.tmp 3)⟩, []),
        (⟨some 22, none, .load1 (.tmp 21)⟩, []),
        (⟨some 23, none, .fld 2 (.tmp 3)⟩, []),
        (⟨some 24, none, .load1 (.tmp 23)⟩, []),
        (⟨some 25, none, .bin .add t_int (.tmp 24) (.const (.int .i64 1))⟩, []),
        (⟨some 26, none, .gen (.build t_echo_place #[(0, (.tmp 22)), (1, (.tmp 25))]) t_echo_place⟩, []),
        (⟨some 27, none, .mv (.tmp 0)⟩, []),
        (⟨some 28, none, .nil (.tmp 27)⟩, []),
        (⟨some 29, none, .fld 12 (.tmp 28)⟩, []),
        (⟨some 30, none, .loadN 2 (.tmp 29)⟩, []),
        (⟨some 31, none, .gen (.binOp .neq t_echo_place (.tmp 26) (.tmp 30) t_echo_place) t_bool⟩, [])])
      (.cond (.tmp 31)
       (.seq
        (.ops [
          ⟨some 32, none, .mv (.tmp 0)⟩,
          ⟨some 33, none, .call n_echo_Echo_giveUp [(.tmp 32)]⟩])
        (.ret))
       (.skip)))
     (.seq
      (.plan [
        (⟨some 34, none, .mv (.tmp 0)⟩, []),
        (⟨some 35, none, .mv (.tmp 0)⟩, []),
        (⟨some 36, none, .mv (.tmp 0)⟩, []),
        (⟨some 37, none, .nil (.tmp 36)⟩, []),
        (⟨some 38, none, .fld 11 (.tmp 37)⟩, []),
        (⟨some 39, none, .load1 (.tmp 38)⟩, []),
        (⟨some 40, none, .mv (.tmp 2)⟩, []),
        (⟨some 41, none, .mv (.tmp 2)⟩, []),
        (⟨some 42, none, .gen (.slice t_S_echo_Guess (.tmp 39) none (some (.tmp 40)) (some (.tmp 41))) t_S_echo_Guess⟩, []),
        (⟨some 43, none, .fld 1 (.tmp 3)⟩, []),
        (⟨some 44, none, .load1 (.tmp 43)⟩, []),
        (⟨some 45, none, .fld 2 (.tmp 3)⟩, []),
        (⟨some 46, none, .load1 (.tmp 45)⟩, []),
        (⟨some 47, none, .gen (.build t_echo_place #[(0, (.tmp 44)), (1, (.tmp 46))]) t_echo_place⟩, []),
        (⟨some 48, none, .nil (.tmp 34)⟩, []),
        (⟨some 49, none, .fld 11 (.tmp 48)⟩, []),
        (⟨none, none, .store 1 (.tmp 49) (.tmp 42)⟩, [⟨some 44, none, .load1 (.tmp 43)⟩, ⟨some 46, none, .load1 (.tmp 45)⟩]),
        (⟨some 50, none, .nil (.tmp 35)⟩, []),
        (⟨some 51, none, .fld 12 (.tmp 50)⟩, []),
        (⟨none, none, .store 2 (.tmp 51) (.tmp 47)⟩, [])])
      (.seq
       (.ops [
         ⟨some 52, none, .mv (.tmp 2)⟩,
         ⟨some 53, none, .bin .eql t_int (.tmp 52) (.const (.int .i64 0))⟩])
       (.cond (.tmp 53)
        (.ops [
          ⟨some 54, none, .mv (.tmp 0)⟩,
          ⟨some 55, none, .call n_echo_Echo_rest [(.tmp 54)]⟩])
        (.skip)))))))),
 []⟩

/-- (*term.Term).made -/
def a_term_Term_made : AFn := ⟨12,
 (.seq
  (.ops [
    ⟨some 2, none, .mv (.const (.bool false))⟩])
  (.seq
   (.ops [
     ⟨some 3, none, .mv (.tmp 0)⟩,
     ⟨some 4, none, .bin .neq t_P_term_Term (.tmp 3) (.const (.pointer none))⟩,
     ⟨some 5, none, .mv (.tmp 4)⟩,
     ⟨some 6, some (5, true), .mv (.tmp 0)⟩,
     ⟨some 7, some (5, true), .nil (.tmp 6)⟩,
     ⟨some 8, some (5, true), .fld 0 (.tmp 7)⟩,
     ⟨some 9, some (5, true), .load1 (.tmp 8)⟩,
     ⟨some 10, some (5, true), .bin .neq t_P_utf_Reader (.tmp 9) (.const (.pointer none))⟩,
     ⟨some 11, none, .pick (.tmp 5) (.tmp 10) (.const (.bool false))⟩,
     ⟨some 2, none, .mv (.tmp 11)⟩])
   (.ret))),
 [.tmp 2]⟩

/-- (*utf.Reader).Read -/
def a_utf_Reader_Read : AFn := ⟨126,
 (.seq
  (.ops [
    ⟨some 4, none, .mv (.const (.slice none 0 0))⟩,
    ⟨some 5, none, .mv (.const (.int .i64 0))⟩])
  (.seq
   (.seq
    (.ops [
      ⟨some 9, none, .mv (.tmp 0)⟩,
      ⟨some 10, none, .bin .eql t_P_utf_Reader (.tmp 9) (.const (.pointer none))⟩,
      ⟨some 11, none, .mv (.tmp 10)⟩,
      ⟨some 12, some (11, false), .mv (.tmp 0)⟩,
      ⟨some 13, some (11, false), .nil (.tmp 12)⟩,
      ⟨some 14, some (11, false), .fld 0 (.tmp 13)⟩,
      ⟨some 15, some (11, false), .load1 (.tmp 14)⟩,
      ⟨some 16, some (11, false), .not (.tmp 15)⟩,
      ⟨some 17, none, .pick (.tmp 11) (.const (.bool true)) (.tmp 16)⟩])
    (.cond (.tmp 17)
     (.seq
      (.ops [
        ⟨some 4, none, .mv (.const (.slice none 0 0))⟩,
        ⟨some 5, none, .mv (.const (.int .i64 6))⟩])
      (.ret))
     (.skip)))
   (.seq
    (.ops [
      ⟨some 6, none, .mv (.const (.slice none 0 0))⟩])
    (.seq
     (.ops [
       ⟨some 7, none, .mv (.const (.int .i64 0))⟩])
     (.seq
      (.skip)
      (.seq
       (.block 0
        (.loop
         (.seq
          (.seq
           (.ops [
             ⟨some 18, none, .mv (.tmp 7)⟩,
             ⟨some 19, none, .mv (.tmp 1)⟩,
             ⟨some 20, none, .len (.tmp 19)⟩,
             ⟨some 21, none, .bin .lss t_int (.tmp 18) (.tmp 20)⟩])
           (.cond (.tmp 21)
            (.skip)
            (.exit 0)))
          (.block 1
           (.seq
            (.ops [
              ⟨some 22, none, .mv (.tmp 1)⟩,
              ⟨some 23, none, .mv (.tmp 7)⟩,
              ⟨some 24, none, .idxS 1 (.tmp 22) (.tmp 23)⟩,
              ⟨some 25, none, .load1 (.tmp 24)⟩,
              ⟨some 8, none, .mv (.tmp 25)⟩])
            (.seq
             (.block 2
              (.seq
               (.ops [
                 ⟨some 27, none, .mv (.tmp 0)⟩,
                 ⟨some 28, none, .nil (.tmp 27)⟩,
                 ⟨some 29, none, .fld 3 (.tmp 28)⟩,
                 ⟨some 30, none, .load1 (.tmp 29)⟩,
                 ⟨some 31, none, .bin .gtr t_int (.tmp 30) (.const (.int .i64 0))⟩,
                 ⟨some 32, none, .mv (.tmp 31)⟩,
                 ⟨some 33, some (32, true), .mv (.tmp 8)⟩,
                 ⟨some 34, some (32, true), .mv (.tmp 0)⟩,
                 ⟨some 35, some (32, true), .nil (.tmp 34)⟩,
                 ⟨some 36, some (32, true), .fld 4 (.tmp 35)⟩,
                 ⟨some 37, some (32, true), .load1 (.tmp 36)⟩,
                 ⟨some 38, some (32, true), .bin .lss t_uint8 (.tmp 33) (.tmp 37)⟩,
                 ⟨some 39, some (32, true), .mv (.tmp 38)⟩,
                 ⟨some 40, some (39, false), .mv (.tmp 8)⟩,
                 ⟨some 41, some (39, false), .mv (.tmp 0)⟩,
                 ⟨some 42, some (39, false), .nil (.tmp 41)⟩,
                 ⟨some 43, some (39, false), .fld 5 (.tmp 42)⟩,
                 ⟨some 44, some (39, false), .load1 (.tmp 43)⟩,
                 ⟨some 45, some (39, false), .bin .gtr t_uint8 (.tmp 40) (.tmp 44)⟩,
                 ⟨some 46, some (32, true), .pick (.tmp 39) (.const (.bool true)) (.tmp 45)⟩,
                 ⟨some 47, none, .pick (.tmp 32) (.tmp 46) (.const (.bool false))⟩,
                 ⟨some 26, none, .mv (.tmp 47)⟩])
               (.cond (.tmp 26)
                (.seq
                 (.ops [
                   ⟨some 48, none, .mv (.tmp 0)⟩,
                   ⟨some 49, none, .nil (.tmp 48)⟩,
                   ⟨some 50, none, .fld 3 (.tmp 49)⟩,
                   ⟨none, none, .store 1 (.tmp 50) (.const (.int .i64 0))⟩])
                 (.seq
                  (.ops [
                    ⟨some 51, none, .mv (.tmp 6)⟩,
                    ⟨some 52, none, .gen (.buildSlice t_S_int32 1 #[(0, (.const (.int .i32 65533)))]) t_S_int32⟩,
                    ⟨some 53, none, .gen (.call ⟨.builtin .append, #[(.tmp 51), (.tmp 52)], #[t_S_int32, t_S_int32]⟩) t_S_int32⟩,
                    ⟨some 6, none, .mv (.tmp 53)⟩])
                  (.exit 1)))
                (.seq
                 (.ops [
                   ⟨some 55, none, .mv (.tmp 0)⟩,
                   ⟨some 56, none, .nil (.tmp 55)⟩,
                   ⟨some 57, none, .fld 3 (.tmp 56)⟩,
                   ⟨some 58, none, .load1 (.tmp 57)⟩,
                   ⟨some 59, none, .bin .gtr t_int (.tmp 58) (.const (.int .i64 0))⟩,
                   ⟨some 54, none, .mv (.tmp 59)⟩])
                 (.cond (.tmp 54)
                  (.seq
                   (.ops [
                     ⟨some 60, none, .mv (.tmp 0)⟩,
                     ⟨some 61, none, .mv (.tmp 0)⟩,
                     ⟨some 62, none, .nil (.tmp 61)⟩,
                     ⟨some 63, none, .fld 1 (.tmp 62)⟩,
                     ⟨some 64, none, .load1 (.tmp 63)⟩,
                     ⟨some 65, none, .gen (.binOp .shl t_int32 (.tmp 64) (.const (.int .u64 6)) t_uint) t_int32⟩,
                     ⟨some 66, none, .mv (.tmp 8)⟩,
                     ⟨some 67, none, .gen (.binOp .and t_uint8 (.tmp 66) (.const (.int .u8 63)) t_uint8) t_uint8⟩,
                     ⟨some 68, none, .gen (.convert t_uint8 t_int32 (.tmp 67)) t_int32⟩,
                     ⟨some 69, none, .gen (.binOp .or t_int32 (.tmp 65) (.tmp 68) t_int32) t_int32⟩,
                     ⟨some 70, none, .nil (.tmp 60)⟩,
                     ⟨some 71, none, .fld 1 (.tmp 70)⟩,
                     ⟨none, none, .store 1 (.tmp 71) (.tmp 69)⟩])
                   (.seq
                    (.ops [
                      ⟨some 72, none, .mv (.tmp 0)⟩,
                      ⟨some 73, none, .mv (.tmp 0)⟩,
                      ⟨some 74, none, .nil (.tmp 72)⟩,
                      ⟨some 75, none, .fld 4 (.tmp 74)⟩,
                      ⟨none, none, .store 1 (.tmp 75) (.const (.int .u8 128))⟩,
                      ⟨some 76, none, .nil (.tmp 73)⟩,
                      ⟨some 77, none, .fld 5 (.tmp 76)⟩,
                      ⟨none, none, .store 1 (.tmp 77) (.const (.int .u8 191))⟩])
                    (.seq
                     (.ops [
                       ⟨some 78, none, .mv (.tmp 0)⟩,
                       ⟨some 79, none, .nil (.tmp 78)⟩,
                       ⟨some 80, none, .fld 3 (.tmp 79)⟩,
                       ⟨some 81, none, .load1 (.tmp 80)⟩,
                       ⟨some 82, none, .bin .add t_int (.tmp 81) (.const (.int .i64 1))⟩,
                       ⟨some 83, none, .nil (.tmp 78)⟩,
                       ⟨some 84, none, .fld 3 (.tmp 83)⟩,
                       ⟨none, none, .store 1 (.tmp 84) (.tmp 82)⟩])
                     (.seq
                      (.ops [
                        ⟨some 85, none, .mv (.tmp 0)⟩,
                        ⟨some 86, none, .nil (.tmp 85)⟩,
                        ⟨some 87, none, .fld 2 (.tmp 86)⟩,
                        ⟨some 88, none, .load1 (.tmp 87)⟩,
                        ⟨some 89, none, .bin .sub t_int (.tmp 88) (.const (.int .i64 1))⟩,
                        ⟨some 90, none, .nil (.tmp 85)⟩,
                        ⟨some 91, none, .fld 2 (.tmp 90)⟩,
                        ⟨none, none, .store 1 (.tmp 91) (.tmp 89)⟩])
                      (.seq
                       (.ops [
                         ⟨some 92, none, .mv (.tmp 0)⟩,
                         ⟨some 93, none, .nil (.tmp 92)⟩,
                         ⟨some 94, none, .fld 2 (.tmp 93)⟩,
                         ⟨some 95, none, .load1 (.tmp 94)⟩,
                         ⟨some 96, none, .bin .eql t_int (.tmp 95) (.const (.int .i64 0))⟩])
                       (.cond (.tmp 96)
                        (.seq
                         (.ops [
                           ⟨some 97, none, .mv (.tmp 6)⟩,
                           ⟨some 98, none, .mv (.tmp 0)⟩,
                           ⟨some 99, none, .nil (.tmp 98)⟩,
                           ⟨some 100, none, .fld 1 (.tmp 99)⟩,
                           ⟨some 101, none, .load1 (.tmp 100)⟩,
                           ⟨some 102, none, .gen (.buildSlice t_S_int32 1 #[(0, (.tmp 101))]) t_S_int32⟩,
                           ⟨some 103, none, .gen (.call ⟨.builtin .append, #[(.tmp 97), (.tmp 102)], #[t_S_int32, t_S_int32]⟩) t_S_int32⟩,
                           ⟨some 6, none, .mv (.tmp 103)⟩])
                         (.ops [
                           ⟨some 104, none, .mv (.tmp 0)⟩,
                           ⟨some 105, none, .nil (.tmp 104)⟩,
                           ⟨some 106, none, .fld 3 (.tmp 105)⟩,
                           ⟨none, none, .store 1 (.tmp 106) (.const (.int .i64 0))⟩]))
                        (.skip)))))))
                  (.seq
                   (.ops [
                     ⟨some 108, none, .mv (.tmp 8)⟩,
                     ⟨some 109, none, .bin .lss t_uint8 (.tmp 108) (.const (.int .u8 128))⟩,
                     ⟨some 107, none, .mv (.tmp 109)⟩])
                   (.cond (.tmp 107)
                    (.ops [
                      ⟨some 110, none, .mv (.tmp 6)⟩,
                      ⟨some 111, none, .mv (.tmp 8)⟩,
                      ⟨some 112, none, .gen (.convert t_uint8 t_int32 (.tmp 111)) t_int32⟩,
                      ⟨some 113, none, .gen (.buildSlice t_S_int32 1 #[(0, (.tmp 112))]) t_S_int32⟩,
                      ⟨some 114, none, .gen (.call ⟨.builtin .append, #[(.tmp 110), (.tmp 113)], #[t_S_int32, t_S_int32]⟩) t_S_int32⟩,
                      ⟨some 6, none, .mv (.tmp 114)⟩])
                    (.seq
                     (.ops [
                       ⟨some 116, none, .mv (.tmp 0)⟩,
                       ⟨some 117, none, .mv (.tmp 8)⟩,
                       ⟨some 118, none, .call n_utf_Reader_begin [(.tmp 116), (.tmp 117)]⟩,
                       ⟨some 119, none, .not (.tmp 118)⟩,
                       ⟨some 115, none, .mv (.tmp 119)⟩])
                     (.cond (.tmp 115)
                      (.ops [
                        ⟨some 120, none, .mv (.tmp 6)⟩,
                        ⟨some 121, none, .gen (.buildSlice t_S_int32 1 #[(0, (.const (.int .i32 65533)))]) t_S_int32⟩,
                        ⟨some 122, none, .gen (.call ⟨.builtin .append, #[(.tmp 120), (.tmp 121)], #[t_S_int32, t_S_int32]⟩) t_S_int32⟩,
                        ⟨some 6, none, .mv (.tmp 122)⟩])
                      (.skip))))))))))
             (.ops [
               ⟨some 123, none, .mv (.tmp 7)⟩,
               ⟨some 124, none, .bin .add t_int (.tmp 123) (.const (.int .i64 1))⟩,
               ⟨some 7, none, .mv (.tmp 124)⟩])))))))
       (.seq
        (.ops [
          ⟨some 125, none, .mv (.tmp 6)⟩,
          ⟨some 4, none, .mv (.tmp 125)⟩,
          ⟨some 5, none, .mv (.const (.int .i64 0))⟩])
        (.ret)))))))),
 [.tmp 4, .tmp 5]⟩

/-- (*ansi.Parser).Feed -/
def a_ansi_Parser_Feed : AFn := ⟨53,
 (.seq
  (.ops [
    ⟨some 4, none, .mv (.const (.slice none 0 0))⟩,
    ⟨some 5, none, .mv (.const (.int .i64 0))⟩])
  (.seq
   (.seq
    (.ops [
      ⟨some 9, none, .mv (.tmp 0)⟩,
      ⟨some 10, none, .bin .eql t_P_ansi_Parser (.tmp 9) (.const (.pointer none))⟩,
      ⟨some 11, none, .mv (.tmp 10)⟩,
      ⟨some 12, some (11, false), .mv (.tmp 0)⟩,
      ⟨some 13, some (11, false), .nil (.tmp 12)⟩,
      ⟨some 14, some (11, false), .fld 0 (.tmp 13)⟩,
      ⟨some 15, some (11, false), .load1 (.tmp 14)⟩,
      ⟨some 16, some (11, false), .not (.tmp 15)⟩,
      ⟨some 17, none, .pick (.tmp 11) (.const (.bool true)) (.tmp 16)⟩])
    (.cond (.tmp 17)
     (.seq
      (.ops [
        ⟨some 4, none, .mv (.const (.slice none 0 0))⟩,
        ⟨some 5, none, .mv (.const (.int .i64 6))⟩])
      (.ret))
     (.skip)))
   (.seq
    (.ops [
      ⟨some 18, none, .mv (.tmp 0)⟩,
      ⟨some 19, none, .nil (.tmp 18)⟩,
      ⟨some 20, none, .fld 13 (.tmp 19)⟩,
      ⟨none, none, .store 1 (.tmp 20) (.const (.slice none 0 0))⟩])
    (.seq
     (.skip)
     (.seq
      (.seq
       (.ops [
         ⟨some 21, none, .mv (.tmp 1)⟩,
         ⟨some 22, none, .len (.tmp 21)⟩,
         ⟨some 23, none, .mv (.const (.int .i64 0))⟩])
       (.block 0
        (.loop
         (.seq
          (.ops [
            ⟨some 24, none, .bin .lss t_int (.tmp 23) (.tmp 22)⟩])
          (.seq
           (.cond (.tmp 24)
            (.skip)
            (.exit 0))
           (.seq
            (.block 1
             (.seq
              (.ops [
                ⟨some 25, none, .idxS 1 (.tmp 21) (.tmp 23)⟩,
                ⟨some 26, none, .load1 (.tmp 25)⟩,
                ⟨some 7, none, .mv (.tmp 26)⟩])
              (.seq
               (.seq
                (.ops [
                  ⟨some 27, none, .mv (.tmp 7)⟩,
                  ⟨some 28, none, .bin .lss t_int32 (.tmp 27) (.const (.int .i32 0))⟩,
                  ⟨some 29, none, .mv (.tmp 28)⟩,
                  ⟨some 30, some (29, false), .mv (.tmp 7)⟩,
                  ⟨some 31, some (29, false), .bin .gtr t_int32 (.tmp 30) (.const (.int .i32 1114111))⟩,
                  ⟨some 32, none, .pick (.tmp 29) (.const (.bool true)) (.tmp 31)⟩,
                  ⟨some 33, none, .mv (.tmp 32)⟩,
                  ⟨some 34, some (33, false), .mv (.tmp 7)⟩,
                  ⟨some 35, some (33, false), .bin .geq t_int32 (.tmp 34) (.const (.int .i32 55296))⟩,
                  ⟨some 36, some (33, false), .mv (.tmp 35)⟩,
                  ⟨some 37, some (36, true), .mv (.tmp 7)⟩,
                  ⟨some 38, some (36, true), .bin .leq t_int32 (.tmp 37) (.const (.int .i32 57343))⟩,
                  ⟨some 39, some (33, false), .pick (.tmp 36) (.tmp 38) (.const (.bool false))⟩,
                  ⟨some 40, none, .pick (.tmp 33) (.const (.bool true)) (.tmp 39)⟩])
                (.cond (.tmp 40)
                 (.exit 1)
                 (.skip)))
               (.ops [
                 ⟨some 41, none, .mv (.tmp 0)⟩,
                 ⟨some 42, none, .mv (.tmp 7)⟩,
                 ⟨some 43, none, .call n_ansi_Parser_take [(.tmp 41), (.tmp 42)]⟩]))))
            (.ops [
              ⟨some 44, none, .bin .add t_int (.tmp 23) (.const (.int .i64 1))⟩,
              ⟨some 23, none, .mv (.tmp 44)⟩])))))))
      (.seq
       (.ops [
         ⟨some 45, none, .mv (.tmp 0)⟩,
         ⟨some 46, none, .nil (.tmp 45)⟩,
         ⟨some 47, none, .fld 13 (.tmp 46)⟩,
         ⟨some 48, none, .load1 (.tmp 47)⟩,
         ⟨some 8, none, .mv (.tmp 48)⟩])
       (.seq
        (.ops [
          ⟨some 49, none, .mv (.tmp 0)⟩,
          ⟨some 50, none, .nil (.tmp 49)⟩,
          ⟨some 51, none, .fld 13 (.tmp 50)⟩,
          ⟨none, none, .store 1 (.tmp 51) (.const (.slice none 0 0))⟩])
        (.seq
         (.ops [
           ⟨some 52, none, .mv (.tmp 8)⟩,
           ⟨some 4, none, .mv (.tmp 52)⟩,
           ⟨some 5, none, .mv (.const (.int .i64 0))⟩])
         (.ret))))))))),
 [.tmp 4, .tmp 5]⟩

/-- (*term.Term).print -/
def a_term_Term_print : AFn := ⟨86,
 (.seq
  (.seq
   (.ops [
     ⟨some 4, none, .mv (.tmp 0)⟩,
     ⟨some 5, none, .nil (.tmp 4)⟩,
     ⟨some 6, none, .fld 7 (.tmp 5)⟩,
     ⟨some 7, none, .load1 (.tmp 6)⟩,
     ⟨some 8, none, .mv (.tmp 7)⟩,
     ⟨some 9, some (8, true), .mv (.tmp 0)⟩,
     ⟨some 10, some (8, true), .nil (.tmp 9)⟩,
     ⟨some 11, some (8, true), .fld 13 (.tmp 10)⟩,
     ⟨some 12, some (8, true), .fld 0 (.tmp 11)⟩,
     ⟨some 13, some (8, true), .load1 (.tmp 12)⟩,
     ⟨some 14, none, .pick (.tmp 8) (.tmp 13) (.const (.bool false))⟩])
   (.cond (.tmp 14)
    (.seq
     (.ops [
       ⟨some 15, none, .mv (.tmp 0)⟩,
       ⟨some 16, none, .mv (.tmp 0)⟩,
       ⟨some 17, none, .nil (.tmp 16)⟩,
       ⟨some 18, none, .fld 5 (.tmp 17)⟩,
       ⟨some 19, none, .load1 (.tmp 18)⟩,
       ⟨some 20, none, .call n_term_Term_move [(.tmp 15), (.tmp 19), (.const (.int .i64 0))]⟩])
     (.ops [
       ⟨some 21, none, .mv (.tmp 0)⟩,
       ⟨some 22, none, .call n_term_Term_index [(.tmp 21)]⟩]))
    (.skip)))
  (.seq
   (.seq
    (.ops [
      ⟨some 23, none, .mv (.tmp 0)⟩,
      ⟨some 24, none, .nil (.tmp 23)⟩,
      ⟨some 25, none, .fld 13 (.tmp 24)⟩,
      ⟨some 26, none, .fld 1 (.tmp 25)⟩,
      ⟨some 27, none, .load1 (.tmp 26)⟩])
    (.cond (.tmp 27)
     (.plan [
       (⟨some 28, none, .mv (.tmp 0)⟩, []),
       (⟨some 30, none, .mv (.tmp 0)⟩, []),
       (⟨some 31, none, .nil (.tmp 30)⟩, []),
       (⟨some 32, none, .fld 5 (.tmp 31)⟩, []),
       (⟨some 33, none, .load1 (.tmp 32)⟩, []),
       (⟨some 34, none, .mv (.tmp 0)⟩, []),
       (⟨some 35, none, .nil (.tmp 34)⟩, []),
       (⟨some 36, none, .fld 6 (.tmp 35)⟩, []),
       (⟨some 37, none, .load1 (.tmp 36)⟩, []),
       (⟨some 38, none, .mv (.tmp 0)⟩, []),
       (⟨some 29, none, .call n_term_Term_g [(.tmp 28)]⟩, [⟨some 33, none, .load1 (.tmp 32)⟩, ⟨some 37, none, .load1 (.tmp 36)⟩]),
       (⟨some 39, none, .call n_term_Term_erased [(.tmp 38)]⟩, [⟨some 33, none, .load1 (.tmp 32)⟩, ⟨some 37, none, .load1 (.tmp 36)⟩]),
       (⟨some 40, none, .call n_grid_Grid_Insert [(.tmp 29), (.tmp 33), (.tmp 37), (.const (.int .i64 1)), (.tmp 39)]⟩, [])])
     (.skip)))
   (.seq
    (.plan [
      (⟨some 41, none, .mv (.tmp 0)⟩, []),
      (⟨some 43, none, .mv (.tmp 0)⟩, []),
      (⟨some 44, none, .nil (.tmp 43)⟩, []),
      (⟨some 45, none, .fld 5 (.tmp 44)⟩, []),
      (⟨some 46, none, .load1 (.tmp 45)⟩, []),
      (⟨some 47, none, .mv (.tmp 0)⟩, []),
      (⟨some 48, none, .nil (.tmp 47)⟩, []),
      (⟨some 49, none, .fld 6 (.tmp 48)⟩, []),
      (⟨some 50, none, .load1 (.tmp 49)⟩, []),
      (⟨some 51, none, .mv (.tmp 1)⟩, []),
      (⟨some 52, none, .mv (.tmp 0)⟩, []),
      (⟨some 53, none, .nil (.tmp 52)⟩, []),
      (⟨some 54, none, .fld 8 (.tmp 53)⟩, []),
      (⟨some 55, none, .loadN 3 (.tmp 54)⟩, []),
      (⟨some 56, none, .gen (.build t_grid_Cell #[(0, (.tmp 51)), (1, (.tmp 55))]) t_grid_Cell⟩, []),
      (⟨some 42, none, .call n_term_Term_g [(.tmp 41)]⟩, [⟨some 46, none, .load1 (.tmp 45)⟩, ⟨some 50, none, .load1 (.tmp 49)⟩, ⟨some 55, none, .loadN 3 (.tmp 54)⟩]),
      (⟨some 57, none, .call n_grid_Grid_Put [(.tmp 42), (.tmp 46), (.tmp 50), (.tmp 56)]⟩, [])])
    (.seq
     (.seq
      (.plan [
        (⟨some 58, none, .mv (.tmp 0)⟩, []),
        (⟨some 59, none, .nil (.tmp 58)⟩, []),
        (⟨some 60, none, .fld 6 (.tmp 59)⟩, []),
        (⟨some 61, none, .load1 (.tmp 60)⟩, []),
        (⟨some 62, none, .mv (.tmp 0)⟩, []),
        (⟨some 63, none, .call n_term_Term_g [(.tmp 62)]⟩, [⟨some 61, none, .load1 (.tmp 60)⟩]),
        (⟨some 64, none, .call n_grid_Grid_Cols [(.tmp 63)]⟩, [⟨some 61, none, .load1 (.tmp 60)⟩]),
        (⟨some 65, none, .bin .sub t_int (.tmp 64) (.const (.int .i64 1))⟩, []),
        (⟨some 66, none, .bin .eql t_int (.tmp 61) (.tmp 65)⟩, [])])
      (.cond (.tmp 66)
       (.seq
        (.ops [
          ⟨some 67, none, .mv (.tmp 0)⟩,
          ⟨some 68, none, .mv (.tmp 0)⟩,
          ⟨some 69, none, .nil (.tmp 68)⟩,
          ⟨some 70, none, .fld 13 (.tmp 69)⟩,
          ⟨some 71, none, .fld 0 (.tmp 70)⟩,
          ⟨some 72, none, .load1 (.tmp 71)⟩,
          ⟨some 73, none, .nil (.tmp 67)⟩,
          ⟨some 74, none, .fld 7 (.tmp 73)⟩,
          ⟨none, none, .store 1 (.tmp 74) (.tmp 72)⟩])
        (.ret))
       (.skip)))
     (.plan [
       (⟨some 75, none, .mv (.tmp 0)⟩, []),
       (⟨some 76, none, .mv (.tmp 0)⟩, []),
       (⟨some 77, none, .nil (.tmp 76)⟩, []),
       (⟨some 78, none, .fld 5 (.tmp 77)⟩, []),
       (⟨some 79, none, .load1 (.tmp 78)⟩, []),
       (⟨some 80, none, .mv (.tmp 0)⟩, []),
       (⟨some 81, none, .nil (.tmp 80)⟩, []),
       (⟨some 82, none, .fld 6 (.tmp 81)⟩, []),
       (⟨some 83, none, .load1 (.tmp 82)⟩, []),
       (⟨some 84, none, .bin .add t_int (.tmp 83) (.const (.int .i64 1))⟩, []),
       (⟨some 85, none, .call n_term_Term_move [(.tmp 75), (.tmp 79), (.tmp 84)]⟩, [])]))))),
 []⟩

/-- (*term.Term).control -/
def a_term_Term_control : AFn := ⟨45,
 (.seq
  (.ops [
    ⟨some 4, none, .mv (.tmp 1)⟩])
  (.block 0
   (.seq
    (.ops [
      ⟨some 6, none, .bin .eql t_int32 (.tmp 4) (.const (.int .i32 7))⟩,
      ⟨some 5, none, .mv (.tmp 6)⟩])
    (.cond (.tmp 5)
     (.ops [
       ⟨some 7, none, .mv (.tmp 0)⟩,
       ⟨some 8, none, .nil (.tmp 7)⟩,
       ⟨some 9, none, .fld 66 (.tmp 8)⟩,
       ⟨some 10, none, .load1 (.tmp 9)⟩,
       ⟨some 11, none, .bin .add t_int (.tmp 10) (.const (.int .i64 1))⟩,
       ⟨some 12, none, .nil (.tmp 7)⟩,
       ⟨some 13, none, .fld 66 (.tmp 12)⟩,
       ⟨none, none, .store 1 (.tmp 13) (.tmp 11)⟩])
     (.seq
      (.ops [
        ⟨some 15, none, .bin .eql t_int32 (.tmp 4) (.const (.int .i32 8))⟩,
        ⟨some 14, none, .mv (.tmp 15)⟩])
      (.cond (.tmp 14)
       (.plan [
         (⟨some 16, none, .mv (.tmp 0)⟩, []),
         (⟨some 17, none, .mv (.tmp 0)⟩, []),
         (⟨some 18, none, .nil (.tmp 17)⟩, []),
         (⟨some 19, none, .fld 5 (.tmp 18)⟩, []),
         (⟨some 20, none, .load1 (.tmp 19)⟩, []),
         (⟨some 21, none, .mv (.tmp 0)⟩, []),
         (⟨some 22, none, .nil (.tmp 21)⟩, []),
         (⟨some 23, none, .fld 6 (.tmp 22)⟩, []),
         (⟨some 24, none, .load1 (.tmp 23)⟩, []),
         (⟨some 25, none, .bin .sub t_int (.tmp 24) (.const (.int .i64 1))⟩, []),
         (⟨some 26, none, .call n_term_Term_move [(.tmp 16), (.tmp 20), (.tmp 25)]⟩, [])])
       (.seq
        (.ops [
          ⟨some 28, none, .bin .eql t_int32 (.tmp 4) (.const (.int .i32 9))⟩,
          ⟨some 27, none, .mv (.tmp 28)⟩])
        (.cond (.tmp 27)
         (.ops [
           ⟨some 29, none, .mv (.tmp 0)⟩,
           ⟨some 30, none, .call n_term_Term_tab [(.tmp 29)]⟩])
         (.seq
          (.seq
           (.ops [
             ⟨some 32, none, .bin .eql t_int32 (.tmp 4) (.const (.int .i32 10))⟩,
             ⟨some 31, none, .mv (.tmp 32)⟩])
           (.cond (.tmp 31)
            (.skip)
            (.seq
             (.ops [
               ⟨some 33, none, .bin .eql t_int32 (.tmp 4) (.const (.int .i32 11))⟩,
               ⟨some 31, none, .mv (.tmp 33)⟩])
             (.cond (.tmp 31)
              (.skip)
              (.ops [
                ⟨some 34, none, .bin .eql t_int32 (.tmp 4) (.const (.int .i32 12))⟩,
                ⟨some 31, none, .mv (.tmp 34)⟩])))))
          (.cond (.tmp 31)
           (.ops [
             ⟨some 35, none, .mv (.tmp 0)⟩,
             ⟨some 36, none, .call n_term_Term_index [(.tmp 35)]⟩])
           (.seq
            (.ops [
              ⟨some 38, none, .bin .eql t_int32 (.tmp 4) (.const (.int .i32 13))⟩,
              ⟨some 37, none, .mv (.tmp 38)⟩])
            (.cond (.tmp 37)
             (.ops [
               ⟨some 39, none, .mv (.tmp 0)⟩,
               ⟨some 40, none, .mv (.tmp 0)⟩,
               ⟨some 41, none, .nil (.tmp 40)⟩,
               ⟨some 42, none, .fld 5 (.tmp 41)⟩,
               ⟨some 43, none, .load1 (.tmp 42)⟩,
               ⟨some 44, none, .call n_term_Term_move [(.tmp 39), (.tmp 43), (.const (.int .i64 0))]⟩])
             (.skip))))))))))))),
 []⟩

/-- (*term.Term).escape -/
def a_term_Term_escape : AFn := ⟨59,
 (.seq
  (.ops [
    ⟨some 3, none, .box t_ansi_Event (.tmp 1)⟩])
  (.seq
   (.seq
    (.ops [
      ⟨some 4, none, .fld 3 (.tmp 3)⟩,
      ⟨some 5, none, .load1 (.tmp 4)⟩,
      ⟨some 6, none, .bin .neq t_uint8 (.tmp 5) (.const (.int .u8 0))⟩])
    (.cond (.tmp 6)
     (.seq
      (.seq
       (.ops [
         ⟨some 7, none, .fld 3 (.tmp 3)⟩,
         ⟨some 8, none, .load1 (.tmp 7)⟩,
         ⟨some 9, none, .bin .eql t_uint8 (.tmp 8) (.const (.int .u8 35))⟩,
         ⟨some 10, none, .mv (.tmp 9)⟩,
         ⟨some 11, some (10, true), .fld 4 (.tmp 3)⟩,
         ⟨some 12, some (10, true), .load1 (.tmp 11)⟩,
         ⟨some 13, some (10, true), .bin .eql t_uint8 (.tmp 12) (.const (.int .u8 56))⟩,
         ⟨some 14, none, .pick (.tmp 10) (.tmp 13) (.const (.bool false))⟩])
       (.cond (.tmp 14)
        (.ops [
          ⟨some 15, none, .mv (.tmp 0)⟩,
          ⟨some 16, none, .call n_term_Term_align [(.tmp 15)]⟩])
        (.skip)))
      (.ret))
     (.skip)))
   (.seq
    (.ops [
      ⟨some 17, none, .fld 4 (.tmp 3)⟩,
      ⟨some 18, none, .load1 (.tmp 17)⟩])
    (.block 0
     (.seq
      (.ops [
        ⟨some 20, none, .bin .eql t_uint8 (.tmp 18) (.const (.int .u8 68))⟩,
        ⟨some 19, none, .mv (.tmp 20)⟩])
      (.cond (.tmp 19)
       (.ops [
         ⟨some 21, none, .mv (.tmp 0)⟩,
         ⟨some 22, none, .call n_term_Term_index [(.tmp 21)]⟩])
       (.seq
        (.ops [
          ⟨some 24, none, .bin .eql t_uint8 (.tmp 18) (.const (.int .u8 69))⟩,
          ⟨some 23, none, .mv (.tmp 24)⟩])
        (.cond (.tmp 23)
         (.seq
          (.ops [
            ⟨some 25, none, .mv (.tmp 0)⟩,
            ⟨some 26, none, .mv (.tmp 0)⟩,
            ⟨some 27, none, .nil (.tmp 26)⟩,
            ⟨some 28, none, .fld 5 (.tmp 27)⟩,
            ⟨some 29, none, .load1 (.tmp 28)⟩,
            ⟨some 30, none, .call n_term_Term_move [(.tmp 25), (.tmp 29), (.const (.int .i64 0))]⟩])
          (.ops [
            ⟨some 31, none, .mv (.tmp 0)⟩,
            ⟨some 32, none, .call n_term_Term_index [(.tmp 31)]⟩]))
         (.seq
          (.ops [
            ⟨some 34, none, .bin .eql t_uint8 (.tmp 18) (.const (.int .u8 77))⟩,
            ⟨some 33, none, .mv (.tmp 34)⟩])
          (.cond (.tmp 33)
           (.ops [
             ⟨some 35, none, .mv (.tmp 0)⟩,
             ⟨some 36, none, .call n_term_Term_back [(.tmp 35)]⟩])
           (.seq
            (.ops [
              ⟨some 38, none, .bin .eql t_uint8 (.tmp 18) (.const (.int .u8 72))⟩,
              ⟨some 37, none, .mv (.tmp 38)⟩])
            (.cond (.tmp 37)
             (.plan [
               (⟨some 39, none, .mv (.tmp 0)⟩, []),
               (⟨some 40, none, .mv (.tmp 0)⟩, []),
               (⟨some 41, none, .nil (.tmp 40)⟩, []),
               (⟨some 42, none, .fld 6 (.tmp 41)⟩, []),
               (⟨some 43, none, .load1 (.tmp 42)⟩, []),
               (⟨some 44, none, .nil (.tmp 39)⟩, []),
               (⟨some 45, none, .fld 17 (.tmp 44)⟩, []),
               (⟨some 46, none, .idxA 40 1 (.tmp 45) (.tmp 43)⟩, []),
               (⟨none, none, .store 1 (.tmp 46) (.const (.bool true))⟩, [])])
             (.seq
              (.ops [
                ⟨some 48, none, .bin .eql t_uint8 (.tmp 18) (.const (.int .u8 55))⟩,
                ⟨some 47, none, .mv (.tmp 48)⟩])
              (.cond (.tmp 47)
               (.ops [
                 ⟨some 49, none, .mv (.tmp 0)⟩,
                 ⟨some 50, none, .call n_term_Term_save [(.tmp 49)]⟩])
               (.seq
                (.ops [
                  ⟨some 52, none, .bin .eql t_uint8 (.tmp 18) (.const (.int .u8 56))⟩,
                  ⟨some 51, none, .mv (.tmp 52)⟩])
                (.cond (.tmp 51)
                 (.ops [
                   ⟨some 53, none, .mv (.tmp 0)⟩,
                   ⟨some 54, none, .call n_term_Term_restore [(.tmp 53)]⟩])
                 (.seq
                  (.ops [
                    ⟨some 56, none, .bin .eql t_uint8 (.tmp 18) (.const (.int .u8 99))⟩,
                    ⟨some 55, none, .mv (.tmp 56)⟩])
                  (.cond (.tmp 55)
                   (.ops [
                     ⟨some 57, none, .mv (.tmp 0)⟩,
                     ⟨some 58, none, .call n_term_Term_reset [(.tmp 57)]⟩])
                   (.skip))))))))))))))))))),
 []⟩

/-- (*term.Term).sequence -/
def a_term_Term_sequence : AFn := ⟨53,
 (.seq
  (.ops [
    ⟨some 3, none, .box t_ansi_Event (.tmp 1)⟩])
  (.block 0
   (.seq
    (.ops [
      ⟨some 10, none, .fld 3 (.tmp 3)⟩,
      ⟨some 11, none, .load1 (.tmp 10)⟩,
      ⟨some 12, none, .bin .neq t_uint8 (.tmp 11) (.const (.int .u8 0))⟩,
      ⟨some 9, none, .mv (.tmp 12)⟩])
    (.cond (.tmp 9)
     (.skip)
     (.seq
      (.ops [
        ⟨some 14, none, .fld 2 (.tmp 3)⟩,
        ⟨some 15, none, .load1 (.tmp 14)⟩,
        ⟨some 16, none, .bin .eql t_uint8 (.tmp 15) (.const (.int .u8 63))⟩,
        ⟨some 17, none, .mv (.tmp 16)⟩,
        ⟨some 18, some (17, true), .fld 4 (.tmp 3)⟩,
        ⟨some 19, some (17, true), .load1 (.tmp 18)⟩,
        ⟨some 20, some (17, true), .bin .eql t_uint8 (.tmp 19) (.const (.int .u8 104))⟩,
        ⟨some 21, some (17, true), .mv (.tmp 20)⟩,
        ⟨some 22, some (21, false), .fld 4 (.tmp 3)⟩,
        ⟨some 23, some (21, false), .load1 (.tmp 22)⟩,
        ⟨some 24, some (21, false), .bin .eql t_uint8 (.tmp 23) (.const (.int .u8 108))⟩,
        ⟨some 25, some (17, true), .pick (.tmp 21) (.const (.bool true)) (.tmp 24)⟩,
        ⟨some 26, none, .pick (.tmp 17) (.tmp 25) (.const (.bool false))⟩,
        ⟨some 13, none, .mv (.tmp 26)⟩])
      (.cond (.tmp 13)
       (.seq
        (.ops [
          ⟨some 27, none, .fld 5 (.tmp 3)⟩,
          ⟨some 28, none, .load1 (.tmp 27)⟩,
          ⟨some 29, none, .len (.tmp 28)⟩,
          ⟨some 30, none, .mv (.const (.int .i64 0))⟩])
        (.block 1
         (.loop
          (.seq
           (.ops [
             ⟨some 31, none, .bin .lss t_int (.tmp 30) (.tmp 29)⟩])
           (.seq
            (.cond (.tmp 31)
             (.skip)
             (.exit 1))
            (.seq
             (.block 2
              (.seq
               (.ops [
                 ⟨some 32, none, .idxS 1 (.tmp 28) (.tmp 30)⟩,
                 ⟨some 33, none, .load1 (.tmp 32)⟩,
                 ⟨some 5, none, .mv (.tmp 33)⟩])
               (.ops [
                 ⟨some 34, none, .mv (.tmp 0)⟩,
                 ⟨some 35, none, .mv (.tmp 5)⟩,
                 ⟨some 36, none, .fld 4 (.tmp 3)⟩,
                 ⟨some 37, none, .load1 (.tmp 36)⟩,
                 ⟨some 38, none, .bin .eql t_uint8 (.tmp 37) (.const (.int .u8 104))⟩,
                 ⟨some 39, none, .call n_term_Term_mode [(.tmp 34), (.tmp 35), (.tmp 38)]⟩])))
             (.ops [
               ⟨some 40, none, .bin .add t_int (.tmp 30) (.const (.int .i64 1))⟩,
               ⟨some 30, none, .mv (.tmp 40)⟩])))))))
       (.seq
        (.ops [
          ⟨some 42, none, .fld 2 (.tmp 3)⟩,
          ⟨some 43, none, .load1 (.tmp 42)⟩,
          ⟨some 44, none, .bin .neq t_uint8 (.tmp 43) (.const (.int .u8 0))⟩,
          ⟨some 41, none, .mv (.tmp 44)⟩])
        (.cond (.tmp 41)
         (.skip)
         (.seq
          (.ops [
            ⟨some 46, none, .mv (.tmp 0)⟩,
            ⟨some 47, none, .loadN 7 (.tmp 3)⟩,
            ⟨some 48, none, .call n_term_Term_travel [(.tmp 46), (.tmp 47)]⟩,
            ⟨some 45, none, .mv (.tmp 48)⟩])
          (.cond (.tmp 45)
           (.skip)
           (.seq
            (.ops [
              ⟨some 50, none, .mv (.tmp 0)⟩,
              ⟨some 51, none, .loadN 7 (.tmp 3)⟩,
              ⟨some 52, none, .call n_term_Term_edit [(.tmp 50), (.tmp 51)]⟩,
              ⟨some 49, none, .mv (.tmp 52)⟩])
            (.cond (.tmp 49)
             (.skip)
             (.ops [
               ⟨some 6, none, .mv (.tmp 0)⟩,
               ⟨some 7, none, .loadN 7 (.tmp 3)⟩,
               ⟨some 8, none, .call n_term_Term_set [(.tmp 6), (.tmp 7)]⟩]))))))))))))),
 []⟩

/-- (*term.Term).system -/
def a_term_Term_system : AFn := ⟨35,
 (.seq
  (.ops [
    ⟨some 7, none, .mv (.tmp 1)⟩,
    ⟨some 8, none, .call n_osc_Read [(.tmp 7)]⟩,
    ⟨some 6, none, .mv (.tmp 8)⟩,
    ⟨some 9, none, .ext (.tmp 6) 0⟩,
    ⟨some 10, none, .ext (.tmp 6) 1⟩,
    ⟨some 4, none, .new t_osc_Ask [(.int .i64 0), (.string .empty)]⟩,
    ⟨none, none, .store 2 (.tmp 4) (.tmp 9)⟩,
    ⟨some 5, none, .mv (.tmp 10)⟩])
  (.block 0
   (.seq
    (.ops [
      ⟨some 24, none, .mv (.tmp 5)⟩,
      ⟨some 25, none, .bin .neq t_api_Errno (.tmp 24) (.const (.int .i64 0))⟩,
      ⟨some 23, none, .mv (.tmp 25)⟩])
    (.cond (.tmp 23)
     (.skip)
     (.seq
      (.ops [
        ⟨some 27, none, .fld 0 (.tmp 4)⟩,
        ⟨some 28, none, .load1 (.tmp 27)⟩,
        ⟨some 29, none, .bin .eql t_int (.tmp 28) (.const (.int .i64 1))⟩,
        ⟨some 26, none, .mv (.tmp 29)⟩])
      (.cond (.tmp 26)
       (.ops [
         ⟨some 30, none, .mv (.tmp 0)⟩,
         ⟨some 31, none, .fld 1 (.tmp 4)⟩,
         ⟨some 32, none, .load1 (.tmp 31)⟩,
         ⟨some 33, none, .nil (.tmp 30)⟩,
         ⟨some 34, none, .fld 63 (.tmp 33)⟩,
         ⟨none, none, .store 1 (.tmp 34) (.tmp 32)⟩])
       (.seq
        (.ops [
          ⟨some 11, none, .mv (.tmp 0)⟩,
          ⟨some 12, none, .fld 1 (.tmp 4)⟩,
          ⟨some 13, none, .load1 (.tmp 12)⟩,
          ⟨some 14, none, .nil (.tmp 11)⟩,
          ⟨some 15, none, .fld 64 (.tmp 14)⟩,
          ⟨none, none, .store 1 (.tmp 15) (.tmp 13)⟩])
        (.ops [
          ⟨some 16, none, .mv (.tmp 0)⟩,
          ⟨some 17, none, .nil (.tmp 16)⟩,
          ⟨some 18, none, .fld 65 (.tmp 17)⟩,
          ⟨some 19, none, .load1 (.tmp 18)⟩,
          ⟨some 20, none, .bin .add t_int (.tmp 19) (.const (.int .i64 1))⟩,
          ⟨some 21, none, .nil (.tmp 16)⟩,
          ⟨some 22, none, .fld 65 (.tmp 21)⟩,
          ⟨none, none, .store 1 (.tmp 22) (.tmp 20)⟩])))))))),
 []⟩

/-- echo.index -/
def a_echo_index : AFn := ⟨31,
 (.seq
  (.ops [
    ⟨some 3, none, .box t_view_View (.tmp 0)⟩,
    ⟨some 6, none, .mv (.const (.int .i64 0))⟩])
  (.seq
   (.seq
    (.ops [
      ⟨some 7, none, .mv (.tmp 1)⟩,
      ⟨some 8, none, .bin .lss t_int (.tmp 7) (.const (.int .i64 0))⟩,
      ⟨some 9, none, .mv (.tmp 8)⟩,
      ⟨some 10, some (9, false), .mv (.tmp 1)⟩,
      ⟨some 11, some (9, false), .fld 0 (.tmp 3)⟩,
      ⟨some 12, some (9, false), .load1 (.tmp 11)⟩,
      ⟨some 13, some (9, false), .bin .geq t_int (.tmp 10) (.tmp 12)⟩,
      ⟨some 14, none, .pick (.tmp 9) (.const (.bool true)) (.tmp 13)⟩,
      ⟨some 15, none, .mv (.tmp 14)⟩,
      ⟨some 16, some (15, false), .mv (.tmp 2)⟩,
      ⟨some 17, some (15, false), .bin .lss t_int (.tmp 16) (.const (.int .i64 0))⟩,
      ⟨some 18, none, .pick (.tmp 15) (.const (.bool true)) (.tmp 17)⟩,
      ⟨some 19, none, .mv (.tmp 18)⟩,
      ⟨some 20, some (19, false), .mv (.tmp 2)⟩,
      ⟨some 21, some (19, false), .fld 1 (.tmp 3)⟩,
      ⟨some 22, some (19, false), .load1 (.tmp 21)⟩,
      ⟨some 23, some (19, false), .bin .geq t_int (.tmp 20) (.tmp 22)⟩,
      ⟨some 24, none, .pick (.tmp 19) (.const (.bool true)) (.tmp 23)⟩])
    (.cond (.tmp 24)
     (.seq
      (.ops [
        ⟨some 6, none, .mv (.const (.int .i64 (-1)))⟩])
      (.ret))
     (.skip)))
   (.seq
    (.ops [
      ⟨some 25, none, .mv (.tmp 1)⟩,
      ⟨some 26, none, .fld 1 (.tmp 3)⟩,
      ⟨some 27, none, .load1 (.tmp 26)⟩,
      ⟨some 28, none, .bin .mul t_int (.tmp 25) (.tmp 27)⟩,
      ⟨some 29, none, .mv (.tmp 2)⟩,
      ⟨some 30, none, .bin .add t_int (.tmp 28) (.tmp 29)⟩,
      ⟨some 6, none, .mv (.tmp 30)⟩])
    (.ret)))),
 [.tmp 6]⟩

/-- view.First -/
def a_view_First : AFn := ⟨4,
 (.seq
  (.ops [
    ⟨some 0, none, .new t_view_View [(.int .i64 0), (.int .i64 0), (.slice none 0 0), (.int .i64 0), (.int .i64 0), (.bool false)]⟩])
  (.seq
   (.ops [
     ⟨some 1, none, .call n_grid_Blank []⟩,
     ⟨some 2, none, .gen (.buildSlice t_S_grid_Cell 1 #[(0, (.tmp 1))]) t_S_grid_Cell⟩,
     ⟨some 3, none, .gen (.build t_view_View #[(0, (.const (.int .i64 1))), (1, (.const (.int .i64 1))), (2, (.tmp 2)), (5, (.const (.bool true)))]) t_view_View⟩,
     ⟨none, none, .store 6 (.tmp 0) (.tmp 3)⟩])
   (.ret))),
 [.cell 0 t_view_View]⟩

/-- view.Same -/
def a_view_Same : AFn := ⟨45,
 (.seq
  (.ops [
    ⟨some 2, none, .box t_view_View (.tmp 0)⟩,
    ⟨some 3, none, .box t_view_View (.tmp 1)⟩,
    ⟨some 4, none, .mv (.const (.bool false))⟩])
  (.seq
   (.ops [
     ⟨some 5, none, .fld 0 (.tmp 2)⟩,
     ⟨some 6, none, .load1 (.tmp 5)⟩,
     ⟨some 7, none, .fld 0 (.tmp 3)⟩,
     ⟨some 8, none, .load1 (.tmp 7)⟩,
     ⟨some 9, none, .bin .eql t_int (.tmp 6) (.tmp 8)⟩,
     ⟨some 10, none, .mv (.tmp 9)⟩,
     ⟨some 11, some (10, true), .fld 1 (.tmp 2)⟩,
     ⟨some 12, some (10, true), .load1 (.tmp 11)⟩,
     ⟨some 13, some (10, true), .fld 1 (.tmp 3)⟩,
     ⟨some 14, some (10, true), .load1 (.tmp 13)⟩,
     ⟨some 15, some (10, true), .bin .eql t_int (.tmp 12) (.tmp 14)⟩,
     ⟨some 16, none, .pick (.tmp 10) (.tmp 15) (.const (.bool false))⟩,
     ⟨some 17, none, .mv (.tmp 16)⟩,
     ⟨some 18, some (17, true), .fld 3 (.tmp 2)⟩,
     ⟨some 19, some (17, true), .load1 (.tmp 18)⟩,
     ⟨some 20, some (17, true), .fld 3 (.tmp 3)⟩,
     ⟨some 21, some (17, true), .load1 (.tmp 20)⟩,
     ⟨some 22, some (17, true), .bin .eql t_int (.tmp 19) (.tmp 21)⟩,
     ⟨some 23, none, .pick (.tmp 17) (.tmp 22) (.const (.bool false))⟩,
     ⟨some 24, none, .mv (.tmp 23)⟩,
     ⟨some 25, some (24, true), .fld 4 (.tmp 2)⟩,
     ⟨some 26, some (24, true), .load1 (.tmp 25)⟩,
     ⟨some 27, some (24, true), .fld 4 (.tmp 3)⟩,
     ⟨some 28, some (24, true), .load1 (.tmp 27)⟩,
     ⟨some 29, some (24, true), .bin .eql t_int (.tmp 26) (.tmp 28)⟩,
     ⟨some 30, none, .pick (.tmp 24) (.tmp 29) (.const (.bool false))⟩,
     ⟨some 31, none, .mv (.tmp 30)⟩,
     ⟨some 32, some (31, true), .fld 5 (.tmp 2)⟩,
     ⟨some 33, some (31, true), .load1 (.tmp 32)⟩,
     ⟨some 34, some (31, true), .fld 5 (.tmp 3)⟩,
     ⟨some 35, some (31, true), .load1 (.tmp 34)⟩,
     ⟨some 36, some (31, true), .gen (.binOp .eql t_bool (.tmp 33) (.tmp 35) t_bool) t_bool⟩,
     ⟨some 37, none, .pick (.tmp 31) (.tmp 36) (.const (.bool false))⟩,
     ⟨some 38, none, .mv (.tmp 37)⟩,
     ⟨some 39, some (38, true), .fld 2 (.tmp 2)⟩,
     ⟨some 40, some (38, true), .load1 (.tmp 39)⟩,
     ⟨some 41, some (38, true), .fld 2 (.tmp 3)⟩,
     ⟨some 42, some (38, true), .load1 (.tmp 41)⟩,
     ⟨some 43, some (38, true), .call n_slices_Equal_grid_Cell_grid_Cell [(.tmp 40), (.tmp 42)]⟩,
     ⟨some 44, none, .pick (.tmp 38) (.tmp 43) (.const (.bool false))⟩,
     ⟨some 4, none, .mv (.tmp 44)⟩])
   (.ret))),
 [.tmp 4]⟩

/-- (*grid.Grid).Cols -/
def a_grid_Grid_Cols : AFn := ⟨9,
 (.seq
  (.ops [
    ⟨some 2, none, .mv (.const (.int .i64 0))⟩])
  (.seq
   (.seq
    (.ops [
      ⟨some 3, none, .mv (.tmp 0)⟩,
      ⟨some 4, none, .bin .eql t_P_grid_Grid (.tmp 3) (.const (.pointer none))⟩])
    (.cond (.tmp 4)
     (.seq
      (.ops [
        ⟨some 2, none, .mv (.const (.int .i64 0))⟩])
      (.ret))
     (.skip)))
   (.seq
    (.ops [
      ⟨some 5, none, .mv (.tmp 0)⟩,
      ⟨some 6, none, .nil (.tmp 5)⟩,
      ⟨some 7, none, .fld 0 (.tmp 6)⟩,
      ⟨some 8, none, .load1 (.tmp 7)⟩,
      ⟨some 2, none, .mv (.tmp 8)⟩])
    (.ret)))),
 [.tmp 2]⟩

/-- (*grid.Grid).Line -/
def a_grid_Grid_Line : AFn := ⟨21,
 (.seq
  (.ops [
    ⟨some 4, none, .mv (.const (.slice none 0 0))⟩,
    ⟨some 5, none, .mv (.const (.int .i64 0))⟩])
  (.seq
   (.seq
    (.ops [
      ⟨some 7, none, .mv (.tmp 0)⟩,
      ⟨some 8, none, .mv (.tmp 1)⟩,
      ⟨some 9, none, .call n_grid_Grid_has [(.tmp 7), (.tmp 8), (.const (.int .i64 0))]⟩,
      ⟨some 6, none, .mv (.tmp 9)⟩])
    (.seq
     (.ops [
       ⟨some 10, none, .mv (.tmp 6)⟩,
       ⟨some 11, none, .bin .neq t_api_Errno (.tmp 10) (.const (.int .i64 0))⟩])
     (.cond (.tmp 11)
      (.seq
       (.ops [
         ⟨some 12, none, .mv (.tmp 6)⟩,
         ⟨some 4, none, .mv (.const (.slice none 0 0))⟩,
         ⟨some 5, none, .mv (.tmp 12)⟩])
       (.ret))
      (.skip))))
   (.seq
    (.ops [
      ⟨some 13, none, .mv (.tmp 0)⟩,
      ⟨some 14, none, .nil (.tmp 13)⟩,
      ⟨some 15, none, .fld 1 (.tmp 14)⟩,
      ⟨some 16, none, .load1 (.tmp 15)⟩,
      ⟨some 17, none, .mv (.tmp 1)⟩,
      ⟨some 18, none, .idxS 1 (.tmp 16) (.tmp 17)⟩,
      ⟨some 19, none, .load1 (.tmp 18)⟩,
      ⟨some 20, none, .call n_slices_Clone_grid_Cell_grid_Cell [(.tmp 19)]⟩,
      ⟨some 4, none, .mv (.tmp 20)⟩,
      ⟨some 5, none, .mv (.const (.int .i64 0))⟩])
    (.ret)))),
 [.tmp 4, .tmp 5]⟩

/-- slices.ContainsFunc[[]grid.Cell,grid.Cell] -/
def a_slices_ContainsFunc_grid_Cell_grid_Cell : AFn := ⟨9,
 (.seq
  (.ops [
    ⟨some 4, none, .mv (.const (.bool false))⟩])
  (.seq
   (.ops [
     ⟨some 5, none, .mv (.tmp 0)⟩,
     ⟨some 6, none, .mv (.tmp 1)⟩,
     ⟨some 7, none, .call n_slices_IndexFunc_grid_Cell_grid_Cell [(.tmp 5), (.tmp 6)]⟩,
     ⟨some 8, none, .bin .geq t_int (.tmp 7) (.const (.int .i64 0))⟩,
     ⟨some 4, none, .mv (.tmp 8)⟩])
   (.ret))),
 [.tmp 4]⟩

/-- view.Right$1 -/
def a_view_Right_1 : AFn := ⟨6,
 (.seq
  (.ops [
    ⟨some 1, none, .box t_grid_Cell (.tmp 0)⟩,
    ⟨some 2, none, .mv (.const (.bool false))⟩])
  (.seq
   (.ops [
     ⟨some 3, none, .loadN 4 (.tmp 1)⟩,
     ⟨some 4, none, .call n_view_isCell [(.tmp 3)]⟩,
     ⟨some 5, none, .not (.tmp 4)⟩,
     ⟨some 2, none, .mv (.tmp 5)⟩])
   (.ret))),
 [.tmp 2]⟩

/-- view.isCell -/
def a_view_isCell : AFn := ⟨11,
 (.seq
  (.ops [
    ⟨some 1, none, .box t_grid_Cell (.tmp 0)⟩,
    ⟨some 2, none, .mv (.const (.bool false))⟩])
  (.seq
   (.ops [
     ⟨some 3, none, .fld 0 (.tmp 1)⟩,
     ⟨some 4, none, .load1 (.tmp 3)⟩,
     ⟨some 5, none, .call n_utf_Is [(.tmp 4)]⟩,
     ⟨some 6, none, .mv (.tmp 5)⟩,
     ⟨some 7, some (6, true), .fld 1 (.tmp 1)⟩,
     ⟨some 8, some (6, true), .loadN 3 (.tmp 7)⟩,
     ⟨some 9, some (6, true), .call n_style_Right [(.tmp 8)]⟩,
     ⟨some 10, none, .pick (.tmp 6) (.tmp 9) (.const (.bool false))⟩,
     ⟨some 2, none, .mv (.tmp 10)⟩])
   (.ret))),
 [.tmp 2]⟩

/-- longlinelaw17.Cell -/
def a_law17_Cell : AFn := ⟨9,
 (.seq
  (.ops [
    ⟨some 1, none, .box t_grid_Cell (.tmp 0)⟩,
    ⟨some 2, none, .new t_longlineref17_Cell [(.int .i32 0), (.bool false), (.bool false), (.bool false), (.bool false), (.bool false), (.bool false), (.bool false), (.bool false), (.int .u32 0), (.int .u32 0)]⟩])
  (.seq
   (.plan [
     (⟨some 3, none, .fld 0 (.tmp 1)⟩, []),
     (⟨some 4, none, .load1 (.tmp 3)⟩, []),
     (⟨some 5, none, .fld 1 (.tmp 1)⟩, []),
     (⟨some 6, none, .loadN 3 (.tmp 5)⟩, []),
     (⟨some 7, none, .call n_law16_As [(.tmp 6)]⟩, [⟨some 4, none, .load1 (.tmp 3)⟩]),
     (⟨some 8, none, .gen (.build t_longlineref17_Cell #[(0, (.tmp 4)), (1, (.tmp 7))]) t_longlineref17_Cell⟩, []),
     (⟨none, none, .store 11 (.tmp 2) (.tmp 8)⟩, [])])
   (.ret))),
 [.cell 2 t_longlineref17_Cell]⟩

/-- reg.Diff -/
def a_reg_Diff : AFn := ⟨82,
 (.seq
  (.ops [
    ⟨some 2, none, .box t_reg_State (.tmp 0)⟩,
    ⟨some 3, none, .box t_reg_State (.tmp 1)⟩,
    ⟨some 4, none, .mv (.const (.slice none 0 0))⟩,
    ⟨some 5, none, .mv (.const (.int .i64 0))⟩])
  (.seq
   (.seq
    (.ops [
      ⟨some 14, none, .loadN 10 (.tmp 2)⟩,
      ⟨some 15, none, .call n_reg_Right [(.tmp 14)]⟩,
      ⟨some 16, none, .not (.tmp 15)⟩,
      ⟨some 17, none, .mv (.tmp 16)⟩,
      ⟨some 18, some (17, false), .loadN 10 (.tmp 3)⟩,
      ⟨some 19, some (17, false), .call n_reg_Right [(.tmp 18)]⟩,
      ⟨some 20, some (17, false), .not (.tmp 19)⟩,
      ⟨some 21, none, .pick (.tmp 17) (.const (.bool true)) (.tmp 20)⟩])
    (.cond (.tmp 21)
     (.seq
      (.ops [
        ⟨some 4, none, .mv (.const (.slice none 0 0))⟩,
        ⟨some 5, none, .mv (.const (.int .i64 3))⟩])
      (.ret))
     (.skip)))
   (.seq
    (.ops [
      ⟨some 23, none, .fld 0 (.tmp 2)⟩,
      ⟨some 24, none, .loadN 6 (.tmp 23)⟩,
      ⟨some 25, none, .fld 0 (.tmp 3)⟩,
      ⟨some 26, none, .loadN 6 (.tmp 25)⟩,
      ⟨some 27, none, .call n_patch_Diff [(.tmp 24), (.tmp 26)]⟩,
      ⟨some 22, none, .mv (.tmp 27)⟩,
      ⟨some 28, none, .ext (.tmp 22) 0⟩,
      ⟨some 29, none, .ext (.tmp 22) 1⟩,
      ⟨some 6, none, .mv (.tmp 28)⟩,
      ⟨some 7, none, .mv (.tmp 29)⟩])
    (.seq
     (.seq
      (.ops [
        ⟨some 30, none, .mv (.tmp 7)⟩,
        ⟨some 31, none, .bin .neq t_api_Errno (.tmp 30) (.const (.int .i64 0))⟩])
      (.cond (.tmp 31)
       (.seq
        (.ops [
          ⟨some 32, none, .mv (.tmp 7)⟩,
          ⟨some 4, none, .mv (.const (.slice none 0 0))⟩,
          ⟨some 5, none, .mv (.tmp 32)⟩])
        (.ret))
       (.skip)))
     (.seq
      (.ops [
        ⟨some 33, none, .mv (.tmp 6)⟩,
        ⟨some 34, none, .gen (.build t_vint_Field #[(0, (.const (.int .u8 1))), (1, (.tmp 33))]) t_vint_Field⟩,
        ⟨some 35, none, .gen (.buildSlice t_S_vint_Field 1 #[(0, (.tmp 34))]) t_S_vint_Field⟩,
        ⟨some 8, none, .new t_S_vint_Field [(.slice none 0 0)]⟩,
        ⟨none, none, .store 1 (.tmp 8) (.tmp 35)⟩])
      (.seq
       (.ops [
         ⟨some 36, none, .gen (.makeFunc (.func n_reg_Diff_1) #[] #[(.tmp 8)]) t_func_bool_uint8_S_uint8⟩,
         ⟨some 9, none, .mv (.tmp 36)⟩])
       (.seq
        (.ops [
          ⟨some 38, none, .fld 8 (.tmp 3)⟩,
          ⟨some 39, none, .load1 (.tmp 38)⟩,
          ⟨some 40, none, .call n_vint_Put [(.tmp 39)]⟩,
          ⟨some 37, none, .mv (.tmp 40)⟩,
          ⟨some 41, none, .ext (.tmp 37) 0⟩,
          ⟨some 42, none, .ext (.tmp 37) 1⟩,
          ⟨some 10, none, .mv (.tmp 41)⟩,
          ⟨some 11, none, .mv (.tmp 42)⟩])
        (.seq
         (.ops [
           ⟨some 44, none, .fld 9 (.tmp 3)⟩,
           ⟨some 45, none, .load1 (.tmp 44)⟩,
           ⟨some 46, none, .call n_vint_Put [(.tmp 45)]⟩,
           ⟨some 43, none, .mv (.tmp 46)⟩,
           ⟨some 47, none, .ext (.tmp 43) 0⟩,
           ⟨some 48, none, .ext (.tmp 43) 1⟩,
           ⟨some 12, none, .mv (.tmp 47)⟩,
           ⟨some 13, none, .mv (.tmp 48)⟩])
         (.seq
          (.ops [
            ⟨some 49, none, .mv (.tmp 9)⟩,
            ⟨some 50, none, .fld 6 (.tmp 2)⟩,
            ⟨some 51, none, .load1 (.tmp 50)⟩,
            ⟨some 52, none, .fld 6 (.tmp 3)⟩,
            ⟨some 53, none, .load1 (.tmp 52)⟩,
            ⟨some 54, none, .gen (.binOp .neq t_string (.tmp 51) (.tmp 53) t_string) t_bool⟩,
            ⟨some 55, none, .fld 6 (.tmp 3)⟩,
            ⟨some 56, none, .load1 (.tmp 55)⟩,
            ⟨some 57, none, .gen (.convert t_string t_S_uint8 (.tmp 56)) t_S_uint8⟩,
            ⟨some 58, none, .callv (.tmp 49) [(.tmp 54), (.const (.int .u8 2)), (.tmp 57)]⟩])
          (.seq
           (.plan [
             (⟨some 59, none, .mv (.tmp 9)⟩, []),
             (⟨some 60, none, .loadN 10 (.tmp 2)⟩, []),
             (⟨some 62, none, .loadN 10 (.tmp 3)⟩, []),
             (⟨some 65, none, .mv (.tmp 10)⟩, []),
             (⟨some 66, none, .fld 7 (.tmp 3)⟩, []),
             (⟨some 67, none, .load1 (.tmp 66)⟩, []),
             (⟨some 61, none, .call n_reg_State_clipping [(.tmp 60)]⟩, [⟨some 62, none, .loadN 10 (.tmp 3)⟩, ⟨some 67, none, .load1 (.tmp 66)⟩]),
             (⟨some 63, none, .call n_reg_State_clipping [(.tmp 62)]⟩, [⟨some 67, none, .load1 (.tmp 66)⟩]),
             (⟨some 64, none, .gen (.binOp .neq t_reg_clipping (.tmp 61) (.tmp 63) t_reg_clipping) t_bool⟩, []),
             (⟨some 68, none, .gen (.call ⟨.builtin .append, #[(.tmp 65), (.tmp 67)], #[t_S_uint8, t_string]⟩) t_S_uint8⟩, [⟨some 64, none, .gen (.binOp .neq t_reg_clipping (.tmp 61) (.tmp 63) t_reg_clipping) t_bool⟩]),
             (⟨some 69, none, .callv (.tmp 59) [(.tmp 64), (.const (.int .u8 3)), (.tmp 68)]⟩, [])])
           (.seq
            (.ops [
              ⟨some 70, none, .mv (.tmp 9)⟩,
              ⟨some 71, none, .fld 9 (.tmp 2)⟩,
              ⟨some 72, none, .load1 (.tmp 71)⟩,
              ⟨some 73, none, .fld 9 (.tmp 3)⟩,
              ⟨some 74, none, .load1 (.tmp 73)⟩,
              ⟨some 75, none, .bin .neq t_uint64 (.tmp 72) (.tmp 74)⟩,
              ⟨some 76, none, .mv (.tmp 12)⟩,
              ⟨some 77, none, .callv (.tmp 70) [(.tmp 75), (.const (.int .u8 4)), (.tmp 76)]⟩])
            (.seq
             (.ops [
               ⟨some 78, none, .load1 (.tmp 8)⟩,
               ⟨some 79, none, .call n_vint_PutFields [(.tmp 78)]⟩,
               ⟨some 80, none, .ext (.tmp 79) 0⟩,
               ⟨some 81, none, .ext (.tmp 79) 1⟩,
               ⟨some 4, none, .mv (.tmp 80)⟩,
               ⟨some 5, none, .mv (.tmp 81)⟩])
             (.ret))))))))))))),
 [.tmp 4, .tmp 5]⟩

/-- reg.Apply -/
def a_reg_Apply : AFn := ⟨122,
 (.seq
  (.ops [
    ⟨some 2, none, .box t_reg_State (.tmp 0)⟩,
    ⟨some 4, none, .new t_reg_State [(.int .i64 0), (.int .i64 0), (.slice none 0 0), (.int .i64 0), (.int .i64 0), (.bool false), (.string .empty), (.string .empty), (.int .u64 0), (.int .u64 0)]⟩,
    ⟨some 5, none, .mv (.const (.int .i64 0))⟩])
  (.seq
   (.ops [
     ⟨some 26, none, .mv (.tmp 1)⟩,
     ⟨some 27, none, .call n_vint_Fields [(.tmp 26)]⟩,
     ⟨some 25, none, .mv (.tmp 27)⟩,
     ⟨some 28, none, .ext (.tmp 25) 0⟩,
     ⟨some 29, none, .ext (.tmp 25) 1⟩,
     ⟨some 6, none, .mv (.tmp 28)⟩,
     ⟨some 7, none, .mv (.tmp 29)⟩])
   (.seq
    (.seq
     (.ops [
       ⟨some 30, none, .mv (.tmp 7)⟩,
       ⟨some 31, none, .bin .neq t_api_Errno (.tmp 30) (.const (.int .i64 0))⟩,
       ⟨some 32, none, .mv (.tmp 31)⟩,
       ⟨some 33, some (32, false), .loadN 10 (.tmp 2)⟩,
       ⟨some 34, some (32, false), .call n_reg_Right [(.tmp 33)]⟩,
       ⟨some 35, some (32, false), .not (.tmp 34)⟩,
       ⟨some 36, none, .pick (.tmp 32) (.const (.bool true)) (.tmp 35)⟩])
     (.cond (.tmp 36)
      (.seq
       (.ops [
         ⟨some 37, none, .gen (.build t_reg_State #[]) t_reg_State⟩,
         ⟨none, none, .store 10 (.tmp 4) (.tmp 37)⟩,
         ⟨some 5, none, .mv (.const (.int .i64 3))⟩])
       (.ret))
      (.skip)))
    (.seq
     (.ops [
       ⟨some 38, none, .loadN 10 (.tmp 2)⟩,
       ⟨some 8, none, .new t_reg_State [(.int .i64 0), (.int .i64 0), (.slice none 0 0), (.int .i64 0), (.int .i64 0), (.bool false), (.string .empty), (.string .empty), (.int .u64 0), (.int .u64 0)]⟩,
       ⟨none, none, .store 10 (.tmp 8) (.tmp 38)⟩])
     (.seq
      (.ops [
        ⟨some 40, none, .mv (.tmp 6)⟩,
        ⟨some 41, none, .call n_vint_Find [(.tmp 40), (.const (.int .u8 1))]⟩,
        ⟨some 39, none, .mv (.tmp 41)⟩,
        ⟨some 42, none, .ext (.tmp 39) 0⟩,
        ⟨some 43, none, .ext (.tmp 39) 1⟩,
        ⟨some 9, none, .mv (.tmp 42)⟩,
        ⟨some 10, none, .mv (.tmp 43)⟩])
      (.seq
       (.seq
        (.ops [
          ⟨some 44, none, .mv (.tmp 10)⟩,
          ⟨some 45, none, .not (.tmp 44)⟩])
        (.cond (.tmp 45)
         (.seq
          (.ops [
            ⟨some 46, none, .gen (.build t_reg_State #[]) t_reg_State⟩,
            ⟨none, none, .store 10 (.tmp 4) (.tmp 46)⟩,
            ⟨some 5, none, .mv (.const (.int .i64 3))⟩])
          (.ret))
         (.skip)))
       (.seq
        (.seq
         (.ops [
           ⟨some 48, none, .fld 0 (.tmp 2)⟩,
           ⟨some 49, none, .loadN 6 (.tmp 48)⟩,
           ⟨some 50, none, .mv (.tmp 9)⟩,
           ⟨some 51, none, .call n_patch_Apply [(.tmp 49), (.tmp 50)]⟩,
           ⟨some 47, none, .mv (.tmp 51)⟩,
           ⟨some 52, none, .ext (.tmp 47) 0⟩,
           ⟨some 53, none, .ext (.tmp 47) 1⟩,
           ⟨some 54, none, .fld 0 (.tmp 8)⟩,
           ⟨none, none, .store 6 (.tmp 54) (.tmp 52)⟩,
           ⟨some 7, none, .mv (.tmp 53)⟩])
         (.seq
          (.ops [
            ⟨some 55, none, .mv (.tmp 7)⟩,
            ⟨some 56, none, .bin .neq t_api_Errno (.tmp 55) (.const (.int .i64 0))⟩])
          (.cond (.tmp 56)
           (.seq
            (.ops [
              ⟨some 57, none, .gen (.build t_reg_State #[]) t_reg_State⟩,
              ⟨none, none, .store 10 (.tmp 4) (.tmp 57)⟩,
              ⟨some 5, none, .mv (.const (.int .i64 3))⟩])
            (.ret))
           (.skip))))
        (.seq
         (.seq
          (.ops [
            ⟨some 59, none, .mv (.tmp 6)⟩,
            ⟨some 60, none, .call n_vint_Find [(.tmp 59), (.const (.int .u8 2))]⟩,
            ⟨some 58, none, .mv (.tmp 60)⟩,
            ⟨some 61, none, .ext (.tmp 58) 0⟩,
            ⟨some 62, none, .ext (.tmp 58) 1⟩,
            ⟨some 11, none, .mv (.tmp 61)⟩,
            ⟨some 12, none, .mv (.tmp 62)⟩])
          (.seq
           (.ops [
             ⟨some 63, none, .mv (.tmp 12)⟩])
           (.cond (.tmp 63)
            (.ops [
              ⟨some 64, none, .mv (.tmp 11)⟩,
              ⟨some 65, none, .gen (.convert t_S_uint8 t_string (.tmp 64)) t_string⟩,
              ⟨some 66, none, .fld 6 (.tmp 8)⟩,
              ⟨none, none, .store 1 (.tmp 66) (.tmp 65)⟩])
            (.skip))))
         (.seq
          (.seq
           (.ops [
             ⟨some 68, none, .mv (.tmp 6)⟩,
             ⟨some 69, none, .call n_vint_Find [(.tmp 68), (.const (.int .u8 3))]⟩,
             ⟨some 67, none, .mv (.tmp 69)⟩,
             ⟨some 70, none, .ext (.tmp 67) 0⟩,
             ⟨some 71, none, .ext (.tmp 67) 1⟩,
             ⟨some 13, none, .mv (.tmp 70)⟩,
             ⟨some 14, none, .mv (.tmp 71)⟩])
           (.seq
            (.ops [
              ⟨some 72, none, .mv (.tmp 14)⟩])
            (.cond (.tmp 72)
             (.seq
              (.ops [
                ⟨some 74, none, .mv (.tmp 13)⟩,
                ⟨some 75, none, .call n_vint_Get [(.tmp 74), (.const (.int .i64 0))]⟩,
                ⟨some 73, none, .mv (.tmp 75)⟩,
                ⟨some 76, none, .ext (.tmp 73) 0⟩,
                ⟨some 77, none, .ext (.tmp 73) 1⟩,
                ⟨some 78, none, .ext (.tmp 73) 2⟩,
                ⟨some 15, none, .mv (.tmp 76)⟩,
                ⟨some 16, none, .mv (.tmp 77)⟩,
                ⟨some 17, none, .mv (.tmp 78)⟩])
              (.seq
               (.seq
                (.ops [
                  ⟨some 79, none, .mv (.tmp 17)⟩,
                  ⟨some 80, none, .bin .neq t_api_Errno (.tmp 79) (.const (.int .i64 0))⟩])
                (.cond (.tmp 80)
                 (.seq
                  (.ops [
                    ⟨some 81, none, .gen (.build t_reg_State #[]) t_reg_State⟩,
                    ⟨none, none, .store 10 (.tmp 4) (.tmp 81)⟩,
                    ⟨some 5, none, .mv (.const (.int .i64 3))⟩])
                  (.ret))
                 (.skip)))
               (.plan [
                 (⟨some 82, none, .mv (.tmp 15)⟩, []),
                 (⟨some 83, none, .mv (.tmp 13)⟩, []),
                 (⟨some 84, none, .mv (.tmp 16)⟩, []),
                 (⟨some 85, none, .gen (.slice t_S_uint8 (.tmp 83) (some (.tmp 84)) none none) t_S_uint8⟩, []),
                 (⟨some 86, none, .gen (.convert t_S_uint8 t_string (.tmp 85)) t_string⟩, []),
                 (⟨some 87, none, .fld 8 (.tmp 8)⟩, []),
                 (⟨none, none, .store 1 (.tmp 87) (.tmp 82)⟩, [⟨some 85, none, .gen (.slice t_S_uint8 (.tmp 83) (some (.tmp 84)) none none) t_S_uint8⟩, ⟨some 86, none, .gen (.convert t_S_uint8 t_string (.tmp 85)) t_string⟩]),
                 (⟨some 88, none, .fld 7 (.tmp 8)⟩, []),
                 (⟨none, none, .store 1 (.tmp 88) (.tmp 86)⟩, [])])))
             (.skip))))
          (.seq
           (.seq
            (.ops [
              ⟨some 90, none, .mv (.tmp 6)⟩,
              ⟨some 91, none, .call n_vint_Find [(.tmp 90), (.const (.int .u8 4))]⟩,
              ⟨some 89, none, .mv (.tmp 91)⟩,
              ⟨some 92, none, .ext (.tmp 89) 0⟩,
              ⟨some 93, none, .ext (.tmp 89) 1⟩,
              ⟨some 18, none, .mv (.tmp 92)⟩,
              ⟨some 19, none, .mv (.tmp 93)⟩])
            (.seq
             (.ops [
               ⟨some 94, none, .mv (.tmp 19)⟩])
             (.cond (.tmp 94)
              (.seq
               (.ops [
                 ⟨some 96, none, .mv (.tmp 18)⟩,
                 ⟨some 97, none, .call n_vint_Get [(.tmp 96), (.const (.int .i64 0))]⟩,
                 ⟨some 95, none, .mv (.tmp 97)⟩,
                 ⟨some 98, none, .ext (.tmp 95) 0⟩,
                 ⟨some 99, none, .ext (.tmp 95) 1⟩,
                 ⟨some 100, none, .ext (.tmp 95) 2⟩,
                 ⟨some 20, none, .mv (.tmp 98)⟩,
                 ⟨some 21, none, .mv (.tmp 99)⟩,
                 ⟨some 22, none, .mv (.tmp 100)⟩])
               (.seq
                (.seq
                 (.ops [
                   ⟨some 101, none, .mv (.tmp 22)⟩,
                   ⟨some 102, none, .bin .neq t_api_Errno (.tmp 101) (.const (.int .i64 0))⟩])
                 (.cond (.tmp 102)
                  (.seq
                   (.ops [
                     ⟨some 103, none, .gen (.build t_reg_State #[]) t_reg_State⟩,
                     ⟨none, none, .store 10 (.tmp 4) (.tmp 103)⟩,
                     ⟨some 5, none, .mv (.const (.int .i64 3))⟩])
                   (.ret))
                  (.skip)))
                (.ops [
                  ⟨some 104, none, .mv (.tmp 20)⟩,
                  ⟨some 105, none, .fld 9 (.tmp 8)⟩,
                  ⟨none, none, .store 1 (.tmp 105) (.tmp 104)⟩])))
              (.skip))))
           (.seq
            (.seq
             (.ops [
               ⟨some 107, none, .loadN 10 (.tmp 2)⟩,
               ⟨some 108, none, .loadN 10 (.tmp 8)⟩,
               ⟨some 109, none, .call n_reg_Diff [(.tmp 107), (.tmp 108)]⟩,
               ⟨some 106, none, .mv (.tmp 109)⟩,
               ⟨some 110, none, .ext (.tmp 106) 0⟩,
               ⟨some 111, none, .ext (.tmp 106) 1⟩,
               ⟨some 23, none, .mv (.tmp 110)⟩,
               ⟨some 24, none, .mv (.tmp 111)⟩])
             (.seq
              (.ops [
                ⟨some 112, none, .mv (.tmp 24)⟩,
                ⟨some 113, none, .bin .neq t_api_Errno (.tmp 112) (.const (.int .i64 0))⟩,
                ⟨some 114, none, .mv (.tmp 113)⟩,
                ⟨some 115, some (114, false), .mv (.tmp 23)⟩,
                ⟨some 116, some (114, false), .mv (.tmp 1)⟩,
                ⟨some 117, some (114, false), .call n_bytes_Equal [(.tmp 115), (.tmp 116)]⟩,
                ⟨some 118, some (114, false), .not (.tmp 117)⟩,
                ⟨some 119, none, .pick (.tmp 114) (.const (.bool true)) (.tmp 118)⟩])
              (.cond (.tmp 119)
               (.seq
                (.ops [
                  ⟨some 120, none, .gen (.build t_reg_State #[]) t_reg_State⟩,
                  ⟨none, none, .store 10 (.tmp 4) (.tmp 120)⟩,
                  ⟨some 5, none, .mv (.const (.int .i64 3))⟩])
                (.ret))
               (.skip))))
            (.seq
             (.ops [
               ⟨some 121, none, .loadN 10 (.tmp 8)⟩,
               ⟨none, none, .store 10 (.tmp 4) (.tmp 121)⟩,
               ⟨some 5, none, .mv (.const (.int .i64 0))⟩])
             (.ret))))))))))))),
 [.cell 4 t_reg_State, .tmp 5]⟩

/-- reg.Same -/
def a_reg_Same : AFn := ⟨31,
 (.seq
  (.ops [
    ⟨some 2, none, .box t_reg_State (.tmp 0)⟩,
    ⟨some 3, none, .box t_reg_State (.tmp 1)⟩,
    ⟨some 4, none, .mv (.const (.bool false))⟩])
  (.seq
   (.plan [
     (⟨some 5, none, .fld 0 (.tmp 2)⟩, []),
     (⟨some 6, none, .loadN 6 (.tmp 5)⟩, []),
     (⟨some 7, none, .fld 0 (.tmp 3)⟩, []),
     (⟨some 8, none, .loadN 6 (.tmp 7)⟩, []),
     (⟨some 9, none, .call n_view_Same [(.tmp 6), (.tmp 8)]⟩, []),
     (⟨some 10, none, .mv (.tmp 9)⟩, []),
     (⟨some 11, some (10, true), .fld 6 (.tmp 2)⟩, []),
     (⟨some 12, some (10, true), .load1 (.tmp 11)⟩, []),
     (⟨some 13, some (10, true), .fld 6 (.tmp 3)⟩, []),
     (⟨some 14, some (10, true), .load1 (.tmp 13)⟩, []),
     (⟨some 15, some (10, true), .gen (.binOp .eql t_string (.tmp 12) (.tmp 14) t_string) t_bool⟩, []),
     (⟨some 16, none, .pick (.tmp 10) (.tmp 15) (.const (.bool false))⟩, []),
     (⟨some 17, none, .mv (.tmp 16)⟩, []),
     (⟨some 18, some (17, true), .loadN 10 (.tmp 2)⟩, []),
     (⟨some 20, some (17, true), .loadN 10 (.tmp 3)⟩, []),
     (⟨some 19, some (17, true), .call n_reg_State_clipping [(.tmp 18)]⟩, [⟨some 20, some (17, true), .loadN 10 (.tmp 3)⟩]),
     (⟨some 21, some (17, true), .call n_reg_State_clipping [(.tmp 20)]⟩, []),
     (⟨some 22, some (17, true), .gen (.binOp .eql t_reg_clipping (.tmp 19) (.tmp 21) t_reg_clipping) t_bool⟩, []),
     (⟨some 23, none, .pick (.tmp 17) (.tmp 22) (.const (.bool false))⟩, []),
     (⟨some 24, none, .mv (.tmp 23)⟩, []),
     (⟨some 25, some (24, true), .fld 9 (.tmp 2)⟩, []),
     (⟨some 26, some (24, true), .load1 (.tmp 25)⟩, []),
     (⟨some 27, some (24, true), .fld 9 (.tmp 3)⟩, []),
     (⟨some 28, some (24, true), .load1 (.tmp 27)⟩, []),
     (⟨some 29, some (24, true), .bin .eql t_uint64 (.tmp 26) (.tmp 28)⟩, []),
     (⟨some 30, none, .pick (.tmp 24) (.tmp 29) (.const (.bool false))⟩, []),
     (⟨some 4, none, .mv (.tmp 30)⟩, [])])
   (.ret))),
 [.tmp 4]⟩

/-- (*grid.Grid).Resize -/
def a_grid_Grid_Resize : AFn := ⟨57,
 (.seq
  (.ops [
    ⟨some 7, none, .box t_grid_Cell (.tmp 3)⟩,
    ⟨some 8, none, .mv (.const (.int .i64 0))⟩])
  (.seq
   (.block 0
    (.seq
     (.ops [
       ⟨some 13, none, .mv (.tmp 0)⟩,
       ⟨some 14, none, .call n_grid_Grid_made [(.tmp 13)]⟩,
       ⟨some 15, none, .not (.tmp 14)⟩,
       ⟨some 12, none, .mv (.tmp 15)⟩])
     (.cond (.tmp 12)
      (.seq
       (.ops [
         ⟨some 8, none, .mv (.const (.int .i64 6))⟩])
       (.ret))
      (.seq
       (.ops [
         ⟨some 17, none, .mv (.tmp 1)⟩,
         ⟨some 18, none, .mv (.tmp 2)⟩,
         ⟨some 19, none, .call n_grid_fits [(.tmp 17), (.tmp 18)]⟩,
         ⟨some 20, none, .not (.tmp 19)⟩,
         ⟨some 16, none, .mv (.tmp 20)⟩])
       (.cond (.tmp 16)
        (.seq
         (.ops [
           ⟨some 8, none, .mv (.const (.int .i64 1))⟩])
         (.ret))
        (.skip))))))
   (.seq
    (.ops [
      ⟨some 9, none, .mv (.const (.slice none 0 0))⟩])
    (.seq
     (.seq
      (.ops [
        ⟨some 21, none, .mv (.tmp 1)⟩,
        ⟨some 22, none, .mv (.const (.int .i64 0))⟩])
      (.block 1
       (.loop
        (.seq
         (.ops [
           ⟨some 23, none, .bin .lss t_int (.tmp 22) (.tmp 21)⟩])
         (.seq
          (.cond (.tmp 23)
           (.skip)
           (.exit 1))
          (.seq
           (.block 2
            (.seq
             (.ops [
               ⟨some 24, none, .mv (.tmp 22)⟩,
               ⟨some 10, none, .mv (.tmp 24)⟩])
             (.seq
              (.ops [
                ⟨some 25, none, .mv (.tmp 2)⟩,
                ⟨some 26, none, .loadN 4 (.tmp 7)⟩,
                ⟨some 27, none, .call n_grid_line [(.tmp 25), (.tmp 26)]⟩,
                ⟨some 11, none, .mv (.tmp 27)⟩])
              (.seq
               (.seq
                (.ops [
                  ⟨some 28, none, .mv (.tmp 10)⟩,
                  ⟨some 29, none, .mv (.tmp 0)⟩,
                  ⟨some 30, none, .nil (.tmp 29)⟩,
                  ⟨some 31, none, .fld 1 (.tmp 30)⟩,
                  ⟨some 32, none, .load1 (.tmp 31)⟩,
                  ⟨some 33, none, .len (.tmp 32)⟩,
                  ⟨some 34, none, .bin .lss t_int (.tmp 28) (.tmp 33)⟩])
                (.cond (.tmp 34)
                 (.ops [
                   ⟨some 35, none, .mv (.tmp 11)⟩,
                   ⟨some 36, none, .mv (.tmp 0)⟩,
                   ⟨some 37, none, .nil (.tmp 36)⟩,
                   ⟨some 38, none, .fld 1 (.tmp 37)⟩,
                   ⟨some 39, none, .load1 (.tmp 38)⟩,
                   ⟨some 40, none, .mv (.tmp 10)⟩,
                   ⟨some 41, none, .idxS 1 (.tmp 39) (.tmp 40)⟩,
                   ⟨some 42, none, .load1 (.tmp 41)⟩,
                   ⟨some 43, none, .gen (.call ⟨.builtin .copy, #[(.tmp 35), (.tmp 42)], #[t_S_grid_Cell, t_S_grid_Cell]⟩) t_int⟩])
                 (.skip)))
               (.ops [
                 ⟨some 44, none, .mv (.tmp 9)⟩,
                 ⟨some 45, none, .mv (.tmp 11)⟩,
                 ⟨some 46, none, .gen (.buildSlice t_S_S_grid_Cell 1 #[(0, (.tmp 45))]) t_S_S_grid_Cell⟩,
                 ⟨some 47, none, .gen (.call ⟨.builtin .append, #[(.tmp 44), (.tmp 46)], #[t_S_S_grid_Cell, t_S_S_grid_Cell]⟩) t_S_S_grid_Cell⟩,
                 ⟨some 9, none, .mv (.tmp 47)⟩])))))
           (.ops [
             ⟨some 48, none, .bin .add t_int (.tmp 22) (.const (.int .i64 1))⟩,
             ⟨some 22, none, .mv (.tmp 48)⟩])))))))
     (.seq
      (.ops [
        ⟨some 49, none, .mv (.tmp 0)⟩,
        ⟨some 50, none, .mv (.tmp 0)⟩,
        ⟨some 51, none, .mv (.tmp 2)⟩,
        ⟨some 52, none, .mv (.tmp 9)⟩,
        ⟨some 53, none, .nil (.tmp 49)⟩,
        ⟨some 54, none, .fld 0 (.tmp 53)⟩,
        ⟨none, none, .store 1 (.tmp 54) (.tmp 51)⟩,
        ⟨some 55, none, .nil (.tmp 50)⟩,
        ⟨some 56, none, .fld 1 (.tmp 55)⟩,
        ⟨none, none, .store 1 (.tmp 56) (.tmp 52)⟩])
      (.seq
       (.ops [
         ⟨some 8, none, .mv (.const (.int .i64 0))⟩])
       (.ret))))))),
 [.tmp 8]⟩

/-- grid.Blank -/
def a_grid_Blank : AFn := ⟨2,
 (.seq
  (.ops [
    ⟨some 0, none, .new t_grid_Cell [(.int .i32 0), (.int .u8 0), (.int .u32 0), (.int .u32 0)]⟩])
  (.seq
   (.ops [
     ⟨some 1, none, .gen (.build t_grid_Cell #[(0, (.const (.int .i32 32)))]) t_grid_Cell⟩,
     ⟨none, none, .store 4 (.tmp 0) (.tmp 1)⟩])
   (.ret))),
 [.cell 0 t_grid_Cell]⟩

/-- (*term.Term).region -/
def a_term_Term_region : AFn := ⟨14,
 (.ops [
   ⟨some 6, none, .mv (.tmp 0)⟩,
   ⟨some 7, none, .mv (.tmp 0)⟩,
   ⟨some 8, none, .mv (.tmp 1)⟩,
   ⟨some 9, none, .mv (.tmp 2)⟩,
   ⟨some 10, none, .nil (.tmp 6)⟩,
   ⟨some 11, none, .fld 11 (.tmp 10)⟩,
   ⟨none, none, .store 1 (.tmp 11) (.tmp 8)⟩,
   ⟨some 12, none, .nil (.tmp 7)⟩,
   ⟨some 13, none, .fld 12 (.tmp 12)⟩,
   ⟨none, none, .store 1 (.tmp 13) (.tmp 9)⟩]),
 []⟩

/-- (*term.Term).move -/
def a_term_Term_move : AFn := ⟨29,
 (.seq
  (.ops [
    ⟨some 6, none, .mv (.tmp 0)⟩,
    ⟨some 7, none, .mv (.tmp 1)⟩,
    ⟨some 8, none, .mv (.tmp 0)⟩,
    ⟨some 9, none, .call n_term_Term_g [(.tmp 8)]⟩,
    ⟨some 10, none, .call n_grid_Grid_Rows [(.tmp 9)]⟩,
    ⟨some 11, none, .bin .sub t_int (.tmp 10) (.const (.int .i64 1))⟩,
    ⟨some 12, none, .gen (.call ⟨.builtin .min, #[(.tmp 7), (.tmp 11)], #[t_int, t_int]⟩) t_int⟩,
    ⟨some 13, none, .gen (.call ⟨.builtin .max, #[(.const (.int .i64 0)), (.tmp 12)], #[t_int, t_int]⟩) t_int⟩,
    ⟨some 14, none, .nil (.tmp 6)⟩,
    ⟨some 15, none, .fld 5 (.tmp 14)⟩,
    ⟨none, none, .store 1 (.tmp 15) (.tmp 13)⟩])
  (.seq
   (.ops [
     ⟨some 16, none, .mv (.tmp 0)⟩,
     ⟨some 17, none, .mv (.tmp 2)⟩,
     ⟨some 18, none, .mv (.tmp 0)⟩,
     ⟨some 19, none, .call n_term_Term_g [(.tmp 18)]⟩,
     ⟨some 20, none, .call n_grid_Grid_Cols [(.tmp 19)]⟩,
     ⟨some 21, none, .bin .sub t_int (.tmp 20) (.const (.int .i64 1))⟩,
     ⟨some 22, none, .gen (.call ⟨.builtin .min, #[(.tmp 17), (.tmp 21)], #[t_int, t_int]⟩) t_int⟩,
     ⟨some 23, none, .gen (.call ⟨.builtin .max, #[(.const (.int .i64 0)), (.tmp 22)], #[t_int, t_int]⟩) t_int⟩,
     ⟨some 24, none, .nil (.tmp 16)⟩,
     ⟨some 25, none, .fld 6 (.tmp 24)⟩,
     ⟨none, none, .store 1 (.tmp 25) (.tmp 23)⟩])
   (.ops [
     ⟨some 26, none, .mv (.tmp 0)⟩,
     ⟨some 27, none, .nil (.tmp 26)⟩,
     ⟨some 28, none, .fld 7 (.tmp 27)⟩,
     ⟨none, none, .store 1 (.tmp 28) (.const (.bool false))⟩]))),
 []⟩

/-- (*term.Term).g -/
def a_term_Term_g : AFn := ⟨12,
 (.seq
  (.ops [
    ⟨some 2, none, .mv (.const (.pointer none))⟩])
  (.seq
   (.plan [
     (⟨some 3, none, .mv (.tmp 0)⟩, []),
     (⟨some 4, none, .mv (.tmp 0)⟩, []),
     (⟨some 5, none, .nil (.tmp 4)⟩, []),
     (⟨some 6, none, .fld 4 (.tmp 5)⟩, []),
     (⟨some 7, none, .load1 (.tmp 6)⟩, []),
     (⟨some 8, none, .nil (.tmp 3)⟩, []),
     (⟨some 9, none, .fld 2 (.tmp 8)⟩, []),
     (⟨some 10, none, .idxA 2 1 (.tmp 9) (.tmp 7)⟩, []),
     (⟨some 11, none, .load1 (.tmp 10)⟩, []),
     (⟨some 2, none, .mv (.tmp 11)⟩, [])])
   (.ret))),
 [.tmp 2]⟩

/-- (*grid.Grid).Copy -/
def a_grid_Grid_Copy : AFn := ⟨37,
 (.seq
  (.ops [
    ⟨some 2, none, .mv (.const (.pointer none))⟩])
  (.seq
   (.seq
    (.ops [
      ⟨some 6, none, .mv (.tmp 0)⟩,
      ⟨some 7, none, .call n_grid_Grid_made [(.tmp 6)]⟩,
      ⟨some 8, none, .not (.tmp 7)⟩])
    (.cond (.tmp 8)
     (.seq
      (.ops [
        ⟨some 2, none, .mv (.const (.pointer none))⟩])
      (.ret))
     (.skip)))
   (.seq
    (.ops [
      ⟨some 9, none, .mv (.tmp 0)⟩,
      ⟨some 10, none, .nil (.tmp 9)⟩,
      ⟨some 11, none, .fld 0 (.tmp 10)⟩,
      ⟨some 12, none, .load1 (.tmp 11)⟩,
      ⟨some 13, none, .gen (.build t_grid_Grid #[(0, (.tmp 12))]) t_grid_Grid⟩,
      ⟨some 14, none, .box t_grid_Grid (.tmp 13)⟩,
      ⟨some 3, none, .mv (.tmp 14)⟩])
    (.seq
     (.seq
      (.ops [
        ⟨some 15, none, .mv (.tmp 0)⟩,
        ⟨some 16, none, .nil (.tmp 15)⟩,
        ⟨some 17, none, .fld 1 (.tmp 16)⟩,
        ⟨some 18, none, .load1 (.tmp 17)⟩,
        ⟨some 19, none, .len (.tmp 18)⟩,
        ⟨some 20, none, .mv (.const (.int .i64 0))⟩])
      (.block 0
       (.loop
        (.seq
         (.ops [
           ⟨some 21, none, .bin .lss t_int (.tmp 20) (.tmp 19)⟩])
         (.seq
          (.cond (.tmp 21)
           (.skip)
           (.exit 0))
          (.seq
           (.block 1
            (.seq
             (.ops [
               ⟨some 22, none, .idxS 1 (.tmp 18) (.tmp 20)⟩,
               ⟨some 23, none, .load1 (.tmp 22)⟩,
               ⟨some 5, none, .mv (.tmp 23)⟩])
             (.plan [
               (⟨some 24, none, .mv (.tmp 3)⟩, []),
               (⟨some 25, none, .mv (.tmp 3)⟩, []),
               (⟨some 26, none, .nil (.tmp 25)⟩, []),
               (⟨some 27, none, .fld 1 (.tmp 26)⟩, []),
               (⟨some 28, none, .load1 (.tmp 27)⟩, []),
               (⟨some 29, none, .mv (.tmp 5)⟩, []),
               (⟨some 30, none, .call n_slices_Clone_grid_Cell_grid_Cell [(.tmp 29)]⟩, [⟨some 28, none, .load1 (.tmp 27)⟩]),
               (⟨some 31, none, .gen (.buildSlice t_S_S_grid_Cell 1 #[(0, (.tmp 30))]) t_S_S_grid_Cell⟩, [⟨some 28, none, .load1 (.tmp 27)⟩]),
               (⟨some 32, none, .gen (.call ⟨.builtin .append, #[(.tmp 28), (.tmp 31)], #[t_S_S_grid_Cell, t_S_S_grid_Cell]⟩) t_S_S_grid_Cell⟩, []),
               (⟨some 33, none, .nil (.tmp 24)⟩, []),
               (⟨some 34, none, .fld 1 (.tmp 33)⟩, []),
               (⟨none, none, .store 1 (.tmp 34) (.tmp 32)⟩, [])])))
           (.ops [
             ⟨some 35, none, .bin .add t_int (.tmp 20) (.const (.int .i64 1))⟩,
             ⟨some 20, none, .mv (.tmp 35)⟩])))))))
     (.seq
      (.ops [
        ⟨some 36, none, .mv (.tmp 3)⟩,
        ⟨some 2, none, .mv (.tmp 36)⟩])
      (.ret)))))),
 [.tmp 2]⟩

/-- (longlineref17.Grid).Has -/
def a_ref17_Grid_Has : AFn := ⟨25,
 (.seq
  (.ops [
    ⟨some 3, none, .box t_longlineref17_Grid (.tmp 0)⟩,
    ⟨some 6, none, .mv (.const (.bool false))⟩])
  (.seq
   (.ops [
     ⟨some 7, none, .mv (.tmp 1)⟩,
     ⟨some 8, none, .bin .geq t_int (.tmp 7) (.const (.int .i64 0))⟩,
     ⟨some 9, none, .mv (.tmp 8)⟩,
     ⟨some 10, some (9, true), .mv (.tmp 1)⟩,
     ⟨some 11, some (9, true), .fld 0 (.tmp 3)⟩,
     ⟨some 12, some (9, true), .load1 (.tmp 11)⟩,
     ⟨some 13, some (9, true), .bin .lss t_int (.tmp 10) (.tmp 12)⟩,
     ⟨some 14, none, .pick (.tmp 9) (.tmp 13) (.const (.bool false))⟩,
     ⟨some 15, none, .mv (.tmp 14)⟩,
     ⟨some 16, some (15, true), .mv (.tmp 2)⟩,
     ⟨some 17, some (15, true), .bin .geq t_int (.tmp 16) (.const (.int .i64 0))⟩,
     ⟨some 18, none, .pick (.tmp 15) (.tmp 17) (.const (.bool false))⟩,
     ⟨some 19, none, .mv (.tmp 18)⟩,
     ⟨some 20, some (19, true), .mv (.tmp 2)⟩,
     ⟨some 21, some (19, true), .fld 1 (.tmp 3)⟩,
     ⟨some 22, some (19, true), .load1 (.tmp 21)⟩,
     ⟨some 23, some (19, true), .bin .lss t_int (.tmp 20) (.tmp 22)⟩,
     ⟨some 24, none, .pick (.tmp 19) (.tmp 23) (.const (.bool false))⟩,
     ⟨some 6, none, .mv (.tmp 24)⟩])
   (.ret))),
 [.tmp 6]⟩

/-- longlineref20.IsCell -/
def a_ref20_IsCell : AFn := ⟨11,
 (.seq
  (.ops [
    ⟨some 1, none, .box t_longlineref17_Cell (.tmp 0)⟩,
    ⟨some 2, none, .mv (.const (.bool false))⟩])
  (.seq
   (.ops [
     ⟨some 3, none, .fld 0 (.tmp 1)⟩,
     ⟨some 4, none, .load1 (.tmp 3)⟩,
     ⟨some 5, none, .call n_ref13_Is [(.tmp 4)]⟩,
     ⟨some 6, none, .mv (.tmp 5)⟩,
     ⟨some 7, some (6, true), .fld 1 (.tmp 1)⟩,
     ⟨some 8, some (6, true), .loadN 10 (.tmp 7)⟩,
     ⟨some 9, some (6, true), .call n_ref16_Right [(.tmp 8)]⟩,
     ⟨some 10, none, .pick (.tmp 6) (.tmp 9) (.const (.bool false))⟩,
     ⟨some 2, none, .mv (.tmp 10)⟩])
   (.ret))),
 [.tmp 2]⟩

/-- grid.fits -/
def a_grid_fits : AFn := ⟨19,
 (.seq
  (.ops [
    ⟨some 4, none, .mv (.const (.bool false))⟩])
  (.seq
   (.ops [
     ⟨some 5, none, .mv (.tmp 0)⟩,
     ⟨some 6, none, .bin .geq t_int (.tmp 5) (.const (.int .i64 1))⟩,
     ⟨some 7, none, .mv (.tmp 6)⟩,
     ⟨some 8, some (7, true), .mv (.tmp 0)⟩,
     ⟨some 9, some (7, true), .bin .leq t_int (.tmp 8) (.const (.int .i64 12))⟩,
     ⟨some 10, none, .pick (.tmp 7) (.tmp 9) (.const (.bool false))⟩,
     ⟨some 11, none, .mv (.tmp 10)⟩,
     ⟨some 12, some (11, true), .mv (.tmp 1)⟩,
     ⟨some 13, some (11, true), .bin .geq t_int (.tmp 12) (.const (.int .i64 1))⟩,
     ⟨some 14, none, .pick (.tmp 11) (.tmp 13) (.const (.bool false))⟩,
     ⟨some 15, none, .mv (.tmp 14)⟩,
     ⟨some 16, some (15, true), .mv (.tmp 1)⟩,
     ⟨some 17, some (15, true), .bin .leq t_int (.tmp 16) (.const (.int .i64 40))⟩,
     ⟨some 18, none, .pick (.tmp 15) (.tmp 17) (.const (.bool false))⟩,
     ⟨some 4, none, .mv (.tmp 18)⟩])
   (.ret))),
 [.tmp 4]⟩

/-- grid.line -/
def a_grid_line : AFn := ⟨9,
 (.seq
  (.ops [
    ⟨some 3, none, .box t_grid_Cell (.tmp 1)⟩,
    ⟨some 4, none, .mv (.const (.slice none 0 0))⟩])
  (.seq
   (.ops [
     ⟨some 5, none, .loadN 4 (.tmp 3)⟩,
     ⟨some 6, none, .gen (.buildSlice t_S_grid_Cell 1 #[(0, (.tmp 5))]) t_S_grid_Cell⟩,
     ⟨some 7, none, .mv (.tmp 0)⟩,
     ⟨some 8, none, .call n_slices_Repeat_grid_Cell_grid_Cell [(.tmp 6), (.tmp 7)]⟩,
     ⟨some 4, none, .mv (.tmp 8)⟩])
   (.ret))),
 [.tmp 4]⟩

/-- (*grid.Grid).Fill -/
def a_grid_Grid_Fill : AFn := ⟨41,
 (.seq
  (.ops [
    ⟨some 9, none, .box t_grid_Cell (.tmp 4)⟩,
    ⟨some 10, none, .mv (.const (.int .i64 0))⟩])
  (.seq
   (.seq
    (.ops [
      ⟨some 13, none, .mv (.tmp 0)⟩,
      ⟨some 14, none, .mv (.tmp 1)⟩,
      ⟨some 15, none, .call n_grid_Grid_has [(.tmp 13), (.tmp 14), (.const (.int .i64 0))]⟩,
      ⟨some 11, none, .mv (.tmp 15)⟩])
    (.seq
     (.ops [
       ⟨some 16, none, .mv (.tmp 11)⟩,
       ⟨some 17, none, .bin .neq t_api_Errno (.tmp 16) (.const (.int .i64 0))⟩])
     (.cond (.tmp 17)
      (.seq
       (.ops [
         ⟨some 18, none, .mv (.tmp 11)⟩,
         ⟨some 10, none, .mv (.tmp 18)⟩])
       (.ret))
      (.skip))))
   (.seq
    (.seq
     (.ops [
       ⟨some 19, none, .mv (.tmp 2)⟩,
       ⟨some 20, none, .gen (.call ⟨.builtin .max, #[(.tmp 19), (.const (.int .i64 0))], #[t_int, t_int]⟩) t_int⟩,
       ⟨some 12, none, .mv (.tmp 20)⟩])
     (.block 0
      (.loop
       (.seq
        (.seq
         (.ops [
           ⟨some 21, none, .mv (.tmp 12)⟩,
           ⟨some 22, none, .mv (.tmp 3)⟩,
           ⟨some 23, none, .mv (.tmp 0)⟩,
           ⟨some 24, none, .nil (.tmp 23)⟩,
           ⟨some 25, none, .fld 0 (.tmp 24)⟩,
           ⟨some 26, none, .load1 (.tmp 25)⟩,
           ⟨some 27, none, .gen (.call ⟨.builtin .min, #[(.tmp 22), (.tmp 26)], #[t_int, t_int]⟩) t_int⟩,
           ⟨some 28, none, .bin .lss t_int (.tmp 21) (.tmp 27)⟩])
         (.cond (.tmp 28)
          (.skip)
          (.exit 0)))
        (.seq
         (.block 1
          (.plan [
            (⟨some 31, none, .mv (.tmp 0)⟩, []),
            (⟨some 32, none, .nil (.tmp 31)⟩, []),
            (⟨some 33, none, .fld 1 (.tmp 32)⟩, []),
            (⟨some 34, none, .load1 (.tmp 33)⟩, []),
            (⟨some 35, none, .mv (.tmp 1)⟩, []),
            (⟨some 36, none, .idxS 1 (.tmp 34) (.tmp 35)⟩, []),
            (⟨some 37, none, .load1 (.tmp 36)⟩, []),
            (⟨some 38, none, .mv (.tmp 12)⟩, []),
            (⟨some 39, none, .loadN 4 (.tmp 9)⟩, []),
            (⟨some 40, none, .idxS 4 (.tmp 37) (.tmp 38)⟩, []),
            (⟨none, none, .store 4 (.tmp 40) (.tmp 39)⟩, [])]))
         (.ops [
           ⟨some 29, none, .mv (.tmp 12)⟩,
           ⟨some 30, none, .bin .add t_int (.tmp 29) (.const (.int .i64 1))⟩,
           ⟨some 12, none, .mv (.tmp 30)⟩]))))))
    (.seq
     (.ops [
       ⟨some 10, none, .mv (.const (.int .i64 0))⟩])
     (.ret))))),
 [.tmp 10]⟩

/-- (*echo.Echo).cursor -/
def a_echo_Echo_cursor : AFn := ⟨16,
 (.seq
  (.ops [
    ⟨some 2, none, .new t_echo_place [(.int .i64 0), (.int .i64 0)]⟩])
  (.seq
   (.plan [
     (⟨some 3, none, .mv (.tmp 0)⟩, []),
     (⟨some 4, none, .nil (.tmp 3)⟩, []),
     (⟨some 5, none, .fld 1 (.tmp 4)⟩, []),
     (⟨some 6, none, .fld 0 (.tmp 5)⟩, []),
     (⟨some 7, none, .fld 3 (.tmp 6)⟩, []),
     (⟨some 8, none, .load1 (.tmp 7)⟩, []),
     (⟨some 9, none, .mv (.tmp 0)⟩, []),
     (⟨some 10, none, .nil (.tmp 9)⟩, []),
     (⟨some 11, none, .fld 1 (.tmp 10)⟩, []),
     (⟨some 12, none, .fld 0 (.tmp 11)⟩, []),
     (⟨some 13, none, .fld 4 (.tmp 12)⟩, []),
     (⟨some 14, none, .load1 (.tmp 13)⟩, []),
     (⟨some 15, none, .gen (.build t_echo_place #[(0, (.tmp 8)), (1, (.tmp 14))]) t_echo_place⟩, []),
     (⟨none, none, .store 2 (.tmp 2) (.tmp 15)⟩, [])])
   (.ret))),
 [.cell 2 t_echo_place]⟩

/-- (*utf.Reader).begin -/
def a_utf_Reader_begin : AFn := ⟨83,
 (.seq
  (.ops [
    ⟨some 4, none, .mv (.const (.bool false))⟩])
  (.seq
   (.ops [
     ⟨some 5, none, .mv (.tmp 0)⟩,
     ⟨some 6, none, .mv (.tmp 0)⟩,
     ⟨some 7, none, .nil (.tmp 5)⟩,
     ⟨some 8, none, .fld 4 (.tmp 7)⟩,
     ⟨none, none, .store 1 (.tmp 8) (.const (.int .u8 128))⟩,
     ⟨some 9, none, .nil (.tmp 6)⟩,
     ⟨some 10, none, .fld 5 (.tmp 9)⟩,
     ⟨none, none, .store 1 (.tmp 10) (.const (.int .u8 191))⟩])
   (.seq
    (.block 0
     (.seq
      (.ops [
        ⟨some 12, none, .mv (.tmp 1)⟩,
        ⟨some 13, none, .bin .geq t_uint8 (.tmp 12) (.const (.int .u8 194))⟩,
        ⟨some 14, none, .mv (.tmp 13)⟩,
        ⟨some 15, some (14, true), .mv (.tmp 1)⟩,
        ⟨some 16, some (14, true), .bin .leq t_uint8 (.tmp 15) (.const (.int .u8 223))⟩,
        ⟨some 17, none, .pick (.tmp 14) (.tmp 16) (.const (.bool false))⟩,
        ⟨some 11, none, .mv (.tmp 17)⟩])
      (.cond (.tmp 11)
       (.ops [
         ⟨some 18, none, .mv (.tmp 0)⟩,
         ⟨some 19, none, .mv (.tmp 0)⟩,
         ⟨some 20, none, .mv (.tmp 1)⟩,
         ⟨some 21, none, .gen (.binOp .and t_uint8 (.tmp 20) (.const (.int .u8 31)) t_uint8) t_uint8⟩,
         ⟨some 22, none, .gen (.convert t_uint8 t_int32 (.tmp 21)) t_int32⟩,
         ⟨some 23, none, .nil (.tmp 18)⟩,
         ⟨some 24, none, .fld 2 (.tmp 23)⟩,
         ⟨none, none, .store 1 (.tmp 24) (.const (.int .i64 1))⟩,
         ⟨some 25, none, .nil (.tmp 19)⟩,
         ⟨some 26, none, .fld 1 (.tmp 25)⟩,
         ⟨none, none, .store 1 (.tmp 26) (.tmp 22)⟩])
       (.seq
        (.ops [
          ⟨some 28, none, .mv (.tmp 1)⟩,
          ⟨some 29, none, .bin .geq t_uint8 (.tmp 28) (.const (.int .u8 224))⟩,
          ⟨some 30, none, .mv (.tmp 29)⟩,
          ⟨some 31, some (30, true), .mv (.tmp 1)⟩,
          ⟨some 32, some (30, true), .bin .leq t_uint8 (.tmp 31) (.const (.int .u8 239))⟩,
          ⟨some 33, none, .pick (.tmp 30) (.tmp 32) (.const (.bool false))⟩,
          ⟨some 27, none, .mv (.tmp 33)⟩])
        (.cond (.tmp 27)
         (.ops [
           ⟨some 34, none, .mv (.tmp 0)⟩,
           ⟨some 35, none, .mv (.tmp 0)⟩,
           ⟨some 36, none, .mv (.tmp 1)⟩,
           ⟨some 37, none, .gen (.binOp .and t_uint8 (.tmp 36) (.const (.int .u8 15)) t_uint8) t_uint8⟩,
           ⟨some 38, none, .gen (.convert t_uint8 t_int32 (.tmp 37)) t_int32⟩,
           ⟨some 39, none, .nil (.tmp 34)⟩,
           ⟨some 40, none, .fld 2 (.tmp 39)⟩,
           ⟨none, none, .store 1 (.tmp 40) (.const (.int .i64 2))⟩,
           ⟨some 41, none, .nil (.tmp 35)⟩,
           ⟨some 42, none, .fld 1 (.tmp 41)⟩,
           ⟨none, none, .store 1 (.tmp 42) (.tmp 38)⟩])
         (.seq
          (.ops [
            ⟨some 44, none, .mv (.tmp 1)⟩,
            ⟨some 45, none, .bin .geq t_uint8 (.tmp 44) (.const (.int .u8 240))⟩,
            ⟨some 46, none, .mv (.tmp 45)⟩,
            ⟨some 47, some (46, true), .mv (.tmp 1)⟩,
            ⟨some 48, some (46, true), .bin .leq t_uint8 (.tmp 47) (.const (.int .u8 244))⟩,
            ⟨some 49, none, .pick (.tmp 46) (.tmp 48) (.const (.bool false))⟩,
            ⟨some 43, none, .mv (.tmp 49)⟩])
          (.cond (.tmp 43)
           (.ops [
             ⟨some 50, none, .mv (.tmp 0)⟩,
             ⟨some 51, none, .mv (.tmp 0)⟩,
             ⟨some 52, none, .mv (.tmp 1)⟩,
             ⟨some 53, none, .gen (.binOp .and t_uint8 (.tmp 52) (.const (.int .u8 7)) t_uint8) t_uint8⟩,
             ⟨some 54, none, .gen (.convert t_uint8 t_int32 (.tmp 53)) t_int32⟩,
             ⟨some 55, none, .nil (.tmp 50)⟩,
             ⟨some 56, none, .fld 2 (.tmp 55)⟩,
             ⟨none, none, .store 1 (.tmp 56) (.const (.int .i64 3))⟩,
             ⟨some 57, none, .nil (.tmp 51)⟩,
             ⟨some 58, none, .fld 1 (.tmp 57)⟩,
             ⟨none, none, .store 1 (.tmp 58) (.tmp 54)⟩])
           (.seq
            (.ops [
              ⟨some 4, none, .mv (.const (.bool false))⟩])
            (.ret)))))))))
    (.seq
     (.seq
      (.ops [
        ⟨some 59, none, .mv (.tmp 1)⟩])
      (.block 1
       (.seq
        (.ops [
          ⟨some 61, none, .bin .eql t_uint8 (.tmp 59) (.const (.int .u8 224))⟩,
          ⟨some 60, none, .mv (.tmp 61)⟩])
        (.cond (.tmp 60)
         (.ops [
           ⟨some 62, none, .mv (.tmp 0)⟩,
           ⟨some 63, none, .nil (.tmp 62)⟩,
           ⟨some 64, none, .fld 4 (.tmp 63)⟩,
           ⟨none, none, .store 1 (.tmp 64) (.const (.int .u8 160))⟩])
         (.seq
          (.ops [
            ⟨some 66, none, .bin .eql t_uint8 (.tmp 59) (.const (.int .u8 237))⟩,
            ⟨some 65, none, .mv (.tmp 66)⟩])
          (.cond (.tmp 65)
           (.ops [
             ⟨some 67, none, .mv (.tmp 0)⟩,
             ⟨some 68, none, .nil (.tmp 67)⟩,
             ⟨some 69, none, .fld 5 (.tmp 68)⟩,
             ⟨none, none, .store 1 (.tmp 69) (.const (.int .u8 159))⟩])
           (.seq
            (.ops [
              ⟨some 71, none, .bin .eql t_uint8 (.tmp 59) (.const (.int .u8 240))⟩,
              ⟨some 70, none, .mv (.tmp 71)⟩])
            (.cond (.tmp 70)
             (.ops [
               ⟨some 72, none, .mv (.tmp 0)⟩,
               ⟨some 73, none, .nil (.tmp 72)⟩,
               ⟨some 74, none, .fld 4 (.tmp 73)⟩,
               ⟨none, none, .store 1 (.tmp 74) (.const (.int .u8 144))⟩])
             (.seq
              (.ops [
                ⟨some 76, none, .bin .eql t_uint8 (.tmp 59) (.const (.int .u8 244))⟩,
                ⟨some 75, none, .mv (.tmp 76)⟩])
              (.cond (.tmp 75)
               (.ops [
                 ⟨some 77, none, .mv (.tmp 0)⟩,
                 ⟨some 78, none, .nil (.tmp 77)⟩,
                 ⟨some 79, none, .fld 5 (.tmp 78)⟩,
                 ⟨none, none, .store 1 (.tmp 79) (.const (.int .u8 143))⟩])
               (.skip)))))))))))
     (.seq
      (.ops [
        ⟨some 80, none, .mv (.tmp 0)⟩,
        ⟨some 81, none, .nil (.tmp 80)⟩,
        ⟨some 82, none, .fld 3 (.tmp 81)⟩,
        ⟨none, none, .store 1 (.tmp 82) (.const (.int .i64 1))⟩])
      (.seq
       (.ops [
         ⟨some 4, none, .mv (.const (.bool true))⟩])
       (.ret))))))),
 [.tmp 4]⟩

/-- (*ansi.Parser).take -/
def a_ansi_Parser_take : AFn := ⟨81,
 (.block 0
  (.seq
   (.ops [
     ⟨some 9, none, .mv (.tmp 1)⟩,
     ⟨some 10, none, .bin .eql t_int32 (.tmp 9) (.const (.int .i32 24))⟩,
     ⟨some 11, none, .mv (.tmp 10)⟩,
     ⟨some 12, some (11, false), .mv (.tmp 1)⟩,
     ⟨some 13, some (11, false), .bin .eql t_int32 (.tmp 12) (.const (.int .i32 26))⟩,
     ⟨some 14, none, .pick (.tmp 11) (.const (.bool true)) (.tmp 13)⟩,
     ⟨some 8, none, .mv (.tmp 14)⟩])
   (.cond (.tmp 8)
    (.ops [
      ⟨some 15, none, .mv (.tmp 0)⟩,
      ⟨some 16, none, .call n_ansi_Parser_enter [(.tmp 15), (.const (.int .i64 0))]⟩])
    (.seq
     (.ops [
       ⟨some 18, none, .mv (.tmp 1)⟩,
       ⟨some 19, none, .bin .eql t_int32 (.tmp 18) (.const (.int .i32 127))⟩,
       ⟨some 17, none, .mv (.tmp 19)⟩])
     (.cond (.tmp 17)
      (.skip)
      (.seq
       (.ops [
         ⟨some 21, none, .mv (.tmp 0)⟩,
         ⟨some 22, none, .nil (.tmp 21)⟩,
         ⟨some 23, none, .fld 1 (.tmp 22)⟩,
         ⟨some 24, none, .load1 (.tmp 23)⟩,
         ⟨some 25, none, .bin .eql t_int (.tmp 24) (.const (.int .i64 3))⟩,
         ⟨some 20, none, .mv (.tmp 25)⟩])
       (.cond (.tmp 20)
        (.ops [
          ⟨some 26, none, .mv (.tmp 0)⟩,
          ⟨some 27, none, .mv (.tmp 1)⟩,
          ⟨some 28, none, .call n_ansi_Parser_operating [(.tmp 26), (.tmp 27)]⟩])
        (.seq
         (.ops [
           ⟨some 30, none, .mv (.tmp 1)⟩,
           ⟨some 31, none, .bin .eql t_int32 (.tmp 30) (.const (.int .i32 27))⟩,
           ⟨some 29, none, .mv (.tmp 31)⟩])
         (.cond (.tmp 29)
          (.ops [
            ⟨some 32, none, .mv (.tmp 0)⟩,
            ⟨some 33, none, .call n_ansi_Parser_enter [(.tmp 32), (.const (.int .i64 1))]⟩])
          (.seq
           (.ops [
             ⟨some 35, none, .mv (.tmp 1)⟩,
             ⟨some 36, none, .bin .lss t_int32 (.tmp 35) (.const (.int .i32 32))⟩,
             ⟨some 34, none, .mv (.tmp 36)⟩])
           (.cond (.tmp 34)
            (.ops [
              ⟨some 37, none, .mv (.tmp 0)⟩,
              ⟨some 38, none, .mv (.tmp 0)⟩,
              ⟨some 39, none, .nil (.tmp 38)⟩,
              ⟨some 40, none, .fld 13 (.tmp 39)⟩,
              ⟨some 41, none, .load1 (.tmp 40)⟩,
              ⟨some 42, none, .mv (.tmp 1)⟩,
              ⟨some 43, none, .gen (.build t_ansi_Event #[(0, (.const (.int .i64 2))), (1, (.tmp 42))]) t_ansi_Event⟩,
              ⟨some 44, none, .gen (.buildSlice t_S_ansi_Event 1 #[(0, (.tmp 43))]) t_S_ansi_Event⟩,
              ⟨some 45, none, .gen (.call ⟨.builtin .append, #[(.tmp 41), (.tmp 44)], #[t_S_ansi_Event, t_S_ansi_Event]⟩) t_S_ansi_Event⟩,
              ⟨some 46, none, .nil (.tmp 37)⟩,
              ⟨some 47, none, .fld 13 (.tmp 46)⟩,
              ⟨none, none, .store 1 (.tmp 47) (.tmp 45)⟩])
            (.seq
             (.ops [
               ⟨some 49, none, .mv (.tmp 0)⟩,
               ⟨some 50, none, .nil (.tmp 49)⟩,
               ⟨some 51, none, .fld 1 (.tmp 50)⟩,
               ⟨some 52, none, .load1 (.tmp 51)⟩,
               ⟨some 53, none, .bin .eql t_int (.tmp 52) (.const (.int .i64 0))⟩,
               ⟨some 54, none, .mv (.tmp 53)⟩,
               ⟨some 55, some (54, false), .mv (.tmp 1)⟩,
               ⟨some 56, some (54, false), .bin .geq t_int32 (.tmp 55) (.const (.int .i32 128))⟩,
               ⟨some 57, none, .pick (.tmp 54) (.const (.bool true)) (.tmp 56)⟩,
               ⟨some 48, none, .mv (.tmp 57)⟩])
             (.cond (.tmp 48)
              (.seq
               (.ops [
                 ⟨some 58, none, .mv (.tmp 0)⟩,
                 ⟨some 59, none, .call n_ansi_Parser_enter [(.tmp 58), (.const (.int .i64 0))]⟩])
               (.ops [
                 ⟨some 60, none, .mv (.tmp 0)⟩,
                 ⟨some 61, none, .mv (.tmp 0)⟩,
                 ⟨some 62, none, .nil (.tmp 61)⟩,
                 ⟨some 63, none, .fld 13 (.tmp 62)⟩,
                 ⟨some 64, none, .load1 (.tmp 63)⟩,
                 ⟨some 65, none, .mv (.tmp 1)⟩,
                 ⟨some 66, none, .gen (.build t_ansi_Event #[(0, (.const (.int .i64 1))), (1, (.tmp 65))]) t_ansi_Event⟩,
                 ⟨some 67, none, .gen (.buildSlice t_S_ansi_Event 1 #[(0, (.tmp 66))]) t_S_ansi_Event⟩,
                 ⟨some 68, none, .gen (.call ⟨.builtin .append, #[(.tmp 64), (.tmp 67)], #[t_S_ansi_Event, t_S_ansi_Event]⟩) t_S_ansi_Event⟩,
                 ⟨some 69, none, .nil (.tmp 60)⟩,
                 ⟨some 70, none, .fld 13 (.tmp 69)⟩,
                 ⟨none, none, .store 1 (.tmp 70) (.tmp 68)⟩]))
              (.seq
               (.ops [
                 ⟨some 72, none, .mv (.tmp 0)⟩,
                 ⟨some 73, none, .nil (.tmp 72)⟩,
                 ⟨some 74, none, .fld 1 (.tmp 73)⟩,
                 ⟨some 75, none, .load1 (.tmp 74)⟩,
                 ⟨some 76, none, .bin .eql t_int (.tmp 75) (.const (.int .i64 1))⟩,
                 ⟨some 71, none, .mv (.tmp 76)⟩])
               (.cond (.tmp 71)
                (.ops [
                  ⟨some 77, none, .mv (.tmp 0)⟩,
                  ⟨some 78, none, .mv (.tmp 1)⟩,
                  ⟨some 79, none, .gen (.convert t_int32 t_uint8 (.tmp 78)) t_uint8⟩,
                  ⟨some 80, none, .call n_ansi_Parser_escaped [(.tmp 77), (.tmp 79)]⟩])
                (.ops [
                  ⟨some 4, none, .mv (.tmp 0)⟩,
                  ⟨some 5, none, .mv (.tmp 1)⟩,
                  ⟨some 6, none, .gen (.convert t_int32 t_uint8 (.tmp 5)) t_uint8⟩,
                  ⟨some 7, none, .call n_ansi_Parser_control [(.tmp 4), (.tmp 6)]⟩])))))))))))))))),
 []⟩

/-- (*term.Term).index -/
def a_term_Term_index : AFn := ⟨38,
 (.seq
  (.ops [
    ⟨some 2, none, .mv (.tmp 0)⟩,
    ⟨some 3, none, .nil (.tmp 2)⟩,
    ⟨some 4, none, .fld 7 (.tmp 3)⟩,
    ⟨none, none, .store 1 (.tmp 4) (.const (.bool false))⟩])
  (.seq
   (.seq
    (.plan [
      (⟨some 5, none, .mv (.tmp 0)⟩, []),
      (⟨some 6, none, .nil (.tmp 5)⟩, []),
      (⟨some 7, none, .fld 5 (.tmp 6)⟩, []),
      (⟨some 8, none, .load1 (.tmp 7)⟩, []),
      (⟨some 9, none, .mv (.tmp 0)⟩, []),
      (⟨some 10, none, .nil (.tmp 9)⟩, []),
      (⟨some 11, none, .fld 12 (.tmp 10)⟩, []),
      (⟨some 12, none, .load1 (.tmp 11)⟩, []),
      (⟨some 13, none, .bin .eql t_int (.tmp 8) (.tmp 12)⟩, [])])
    (.cond (.tmp 13)
     (.seq
      (.plan [
        (⟨some 14, none, .mv (.tmp 0)⟩, []),
        (⟨some 16, none, .mv (.tmp 0)⟩, []),
        (⟨some 17, none, .nil (.tmp 16)⟩, []),
        (⟨some 18, none, .fld 11 (.tmp 17)⟩, []),
        (⟨some 19, none, .load1 (.tmp 18)⟩, []),
        (⟨some 20, none, .mv (.tmp 0)⟩, []),
        (⟨some 21, none, .nil (.tmp 20)⟩, []),
        (⟨some 22, none, .fld 12 (.tmp 21)⟩, []),
        (⟨some 23, none, .load1 (.tmp 22)⟩, []),
        (⟨some 24, none, .mv (.tmp 0)⟩, []),
        (⟨some 15, none, .call n_term_Term_g [(.tmp 14)]⟩, [⟨some 19, none, .load1 (.tmp 18)⟩, ⟨some 23, none, .load1 (.tmp 22)⟩]),
        (⟨some 25, none, .call n_term_Term_erased [(.tmp 24)]⟩, [⟨some 19, none, .load1 (.tmp 18)⟩, ⟨some 23, none, .load1 (.tmp 22)⟩]),
        (⟨some 26, none, .call n_grid_Grid_Up [(.tmp 15), (.tmp 19), (.tmp 23), (.const (.int .i64 1)), (.tmp 25)]⟩, [])])
      (.ret))
     (.skip)))
   (.plan [
     (⟨some 27, none, .mv (.tmp 0)⟩, []),
     (⟨some 28, none, .mv (.tmp 0)⟩, []),
     (⟨some 29, none, .nil (.tmp 28)⟩, []),
     (⟨some 30, none, .fld 5 (.tmp 29)⟩, []),
     (⟨some 31, none, .load1 (.tmp 30)⟩, []),
     (⟨some 32, none, .bin .add t_int (.tmp 31) (.const (.int .i64 1))⟩, []),
     (⟨some 33, none, .mv (.tmp 0)⟩, []),
     (⟨some 34, none, .nil (.tmp 33)⟩, []),
     (⟨some 35, none, .fld 6 (.tmp 34)⟩, []),
     (⟨some 36, none, .load1 (.tmp 35)⟩, []),
     (⟨some 37, none, .call n_term_Term_move [(.tmp 27), (.tmp 32), (.tmp 36)]⟩, [])]))),
 []⟩

/-- (*grid.Grid).Insert -/
def a_grid_Grid_Insert : AFn := ⟨49,
 (.seq
  (.ops [
    ⟨some 9, none, .box t_grid_Cell (.tmp 4)⟩,
    ⟨some 10, none, .mv (.const (.int .i64 0))⟩])
  (.seq
   (.seq
    (.ops [
      ⟨some 13, none, .mv (.tmp 0)⟩,
      ⟨some 14, none, .mv (.tmp 1)⟩,
      ⟨some 15, none, .mv (.tmp 2)⟩,
      ⟨some 16, none, .mv (.tmp 3)⟩,
      ⟨some 17, none, .call n_grid_Grid_cells [(.tmp 13), (.tmp 14), (.tmp 15), (.tmp 16)]⟩,
      ⟨some 11, none, .mv (.tmp 17)⟩])
    (.seq
     (.ops [
       ⟨some 18, none, .mv (.tmp 11)⟩,
       ⟨some 19, none, .bin .neq t_api_Errno (.tmp 18) (.const (.int .i64 0))⟩])
     (.cond (.tmp 19)
      (.seq
       (.ops [
         ⟨some 20, none, .mv (.tmp 11)⟩,
         ⟨some 10, none, .mv (.tmp 20)⟩])
       (.ret))
      (.skip))))
   (.seq
    (.ops [
      ⟨some 21, none, .mv (.tmp 0)⟩,
      ⟨some 22, none, .nil (.tmp 21)⟩,
      ⟨some 23, none, .fld 1 (.tmp 22)⟩,
      ⟨some 24, none, .load1 (.tmp 23)⟩,
      ⟨some 25, none, .mv (.tmp 1)⟩,
      ⟨some 26, none, .idxS 1 (.tmp 24) (.tmp 25)⟩,
      ⟨some 27, none, .load1 (.tmp 26)⟩,
      ⟨some 28, none, .mv (.tmp 2)⟩,
      ⟨some 29, none, .gen (.slice t_S_grid_Cell (.tmp 27) (some (.tmp 28)) none none) t_S_grid_Cell⟩,
      ⟨some 12, none, .mv (.tmp 29)⟩])
    (.seq
     (.ops [
       ⟨some 30, none, .mv (.tmp 3)⟩,
       ⟨some 31, none, .mv (.tmp 12)⟩,
       ⟨some 32, none, .len (.tmp 31)⟩,
       ⟨some 33, none, .gen (.call ⟨.builtin .min, #[(.tmp 30), (.tmp 32)], #[t_int, t_int]⟩) t_int⟩,
       ⟨some 3, none, .mv (.tmp 33)⟩])
     (.seq
      (.plan [
        (⟨some 34, none, .mv (.tmp 12)⟩, []),
        (⟨some 35, none, .mv (.tmp 3)⟩, []),
        (⟨some 36, none, .gen (.slice t_S_grid_Cell (.tmp 34) (some (.tmp 35)) none none) t_S_grid_Cell⟩, []),
        (⟨some 37, none, .mv (.tmp 12)⟩, []),
        (⟨some 38, none, .mv (.tmp 12)⟩, []),
        (⟨some 39, none, .len (.tmp 38)⟩, []),
        (⟨some 40, none, .mv (.tmp 3)⟩, []),
        (⟨some 41, none, .bin .sub t_int (.tmp 39) (.tmp 40)⟩, []),
        (⟨some 42, none, .gen (.slice t_S_grid_Cell (.tmp 37) none (some (.tmp 41)) none) t_S_grid_Cell⟩, []),
        (⟨some 43, none, .gen (.call ⟨.builtin .copy, #[(.tmp 36), (.tmp 42)], #[t_S_grid_Cell, t_S_grid_Cell]⟩) t_int⟩, [])])
      (.seq
       (.ops [
         ⟨some 44, none, .mv (.tmp 12)⟩,
         ⟨some 45, none, .mv (.tmp 3)⟩,
         ⟨some 46, none, .loadN 4 (.tmp 9)⟩,
         ⟨some 47, none, .call n_grid_line [(.tmp 45), (.tmp 46)]⟩,
         ⟨some 48, none, .gen (.call ⟨.builtin .copy, #[(.tmp 44), (.tmp 47)], #[t_S_grid_Cell, t_S_grid_Cell]⟩) t_int⟩])
       (.seq
        (.ops [
          ⟨some 10, none, .mv (.const (.int .i64 0))⟩])
        (.ret)))))))),
 [.tmp 10]⟩

/-- (*term.Term).erased -/
def a_term_Term_erased : AFn := ⟨13,
 (.seq
  (.ops [
    ⟨some 2, none, .new t_grid_Cell [(.int .i32 0), (.int .u8 0), (.int .u32 0), (.int .u32 0)]⟩])
  (.seq
   (.ops [
     ⟨some 4, none, .call n_grid_Blank []⟩,
     ⟨some 3, none, .new t_grid_Cell [(.int .i32 0), (.int .u8 0), (.int .u32 0), (.int .u32 0)]⟩,
     ⟨none, none, .store 4 (.tmp 3) (.tmp 4)⟩])
   (.seq
    (.ops [
      ⟨some 5, none, .mv (.tmp 0)⟩,
      ⟨some 6, none, .nil (.tmp 5)⟩,
      ⟨some 7, none, .fld 8 (.tmp 6)⟩,
      ⟨some 8, none, .fld 2 (.tmp 7)⟩,
      ⟨some 9, none, .load1 (.tmp 8)⟩,
      ⟨some 10, none, .fld 1 (.tmp 3)⟩,
      ⟨some 11, none, .fld 2 (.tmp 10)⟩,
      ⟨none, none, .store 1 (.tmp 11) (.tmp 9)⟩])
    (.seq
     (.ops [
       ⟨some 12, none, .loadN 4 (.tmp 3)⟩,
       ⟨none, none, .store 4 (.tmp 2) (.tmp 12)⟩])
     (.ret))))),
 [.cell 2 t_grid_Cell]⟩

/-- (*grid.Grid).Put -/
def a_grid_Grid_Put : AFn := ⟨27,
 (.seq
  (.ops [
    ⟨some 7, none, .box t_grid_Cell (.tmp 3)⟩,
    ⟨some 8, none, .mv (.const (.int .i64 0))⟩])
  (.seq
   (.ops [
     ⟨some 10, none, .mv (.tmp 0)⟩,
     ⟨some 11, none, .mv (.tmp 1)⟩,
     ⟨some 12, none, .mv (.tmp 2)⟩,
     ⟨some 13, none, .call n_grid_Grid_has [(.tmp 10), (.tmp 11), (.tmp 12)]⟩,
     ⟨some 9, none, .mv (.tmp 13)⟩])
   (.seq
    (.seq
     (.ops [
       ⟨some 14, none, .mv (.tmp 9)⟩,
       ⟨some 15, none, .bin .eql t_api_Errno (.tmp 14) (.const (.int .i64 0))⟩])
     (.cond (.tmp 15)
      (.plan [
        (⟨some 16, none, .mv (.tmp 0)⟩, []),
        (⟨some 17, none, .nil (.tmp 16)⟩, []),
        (⟨some 18, none, .fld 1 (.tmp 17)⟩, []),
        (⟨some 19, none, .load1 (.tmp 18)⟩, []),
        (⟨some 20, none, .mv (.tmp 1)⟩, []),
        (⟨some 21, none, .idxS 1 (.tmp 19) (.tmp 20)⟩, []),
        (⟨some 22, none, .load1 (.tmp 21)⟩, []),
        (⟨some 23, none, .mv (.tmp 2)⟩, []),
        (⟨some 24, none, .loadN 4 (.tmp 7)⟩, []),
        (⟨some 25, none, .idxS 4 (.tmp 22) (.tmp 23)⟩, []),
        (⟨none, none, .store 4 (.tmp 25) (.tmp 24)⟩, [])])
      (.skip)))
    (.seq
     (.ops [
       ⟨some 26, none, .mv (.tmp 9)⟩,
       ⟨some 8, none, .mv (.tmp 26)⟩])
     (.ret))))),
 [.tmp 8]⟩

/-- (*term.Term).tab -/
def a_term_Term_tab : AFn := ⟨28,
 (.seq
  (.ops [
    ⟨some 3, none, .mv (.tmp 0)⟩,
    ⟨some 4, none, .nil (.tmp 3)⟩,
    ⟨some 5, none, .fld 6 (.tmp 4)⟩,
    ⟨some 6, none, .load1 (.tmp 5)⟩,
    ⟨some 7, none, .bin .add t_int (.tmp 6) (.const (.int .i64 1))⟩,
    ⟨some 2, none, .mv (.tmp 7)⟩])
  (.seq
   (.skip)
   (.seq
    (.block 0
     (.loop
      (.seq
       (.seq
        (.ops [
          ⟨some 8, none, .mv (.tmp 2)⟩,
          ⟨some 9, none, .mv (.tmp 0)⟩,
          ⟨some 10, none, .call n_term_Term_g [(.tmp 9)]⟩,
          ⟨some 11, none, .call n_grid_Grid_Cols [(.tmp 10)]⟩,
          ⟨some 12, none, .bin .lss t_int (.tmp 8) (.tmp 11)⟩])
        (.cond (.tmp 12)
         (.skip)
         (.exit 0)))
       (.block 1
        (.seq
         (.seq
          (.ops [
            ⟨some 13, none, .mv (.tmp 0)⟩,
            ⟨some 14, none, .mv (.tmp 2)⟩,
            ⟨some 15, none, .nil (.tmp 13)⟩,
            ⟨some 16, none, .fld 17 (.tmp 15)⟩,
            ⟨some 17, none, .idxA 40 1 (.tmp 16) (.tmp 14)⟩,
            ⟨some 18, none, .load1 (.tmp 17)⟩])
          (.cond (.tmp 18)
           (.exit 0)
           (.skip)))
         (.ops [
           ⟨some 19, none, .mv (.tmp 2)⟩,
           ⟨some 20, none, .bin .add t_int (.tmp 19) (.const (.int .i64 1))⟩,
           ⟨some 2, none, .mv (.tmp 20)⟩]))))))
    (.ops [
      ⟨some 21, none, .mv (.tmp 0)⟩,
      ⟨some 22, none, .mv (.tmp 0)⟩,
      ⟨some 23, none, .nil (.tmp 22)⟩,
      ⟨some 24, none, .fld 5 (.tmp 23)⟩,
      ⟨some 25, none, .load1 (.tmp 24)⟩,
      ⟨some 26, none, .mv (.tmp 2)⟩,
      ⟨some 27, none, .call n_term_Term_move [(.tmp 21), (.tmp 25), (.tmp 26)]⟩])))),
 []⟩

/-- (*term.Term).align -/
def a_term_Term_align : AFn := ⟨23,
 (.seq
  (.seq
   (.ops [
     ⟨some 3, none, .mv (.tmp 0)⟩,
     ⟨some 4, none, .call n_term_Term_g [(.tmp 3)]⟩,
     ⟨some 5, none, .call n_grid_Grid_Rows [(.tmp 4)]⟩,
     ⟨some 6, none, .mv (.const (.int .i64 0))⟩])
   (.block 0
    (.loop
     (.seq
      (.ops [
        ⟨some 7, none, .bin .lss t_int (.tmp 6) (.tmp 5)⟩])
      (.seq
       (.cond (.tmp 7)
        (.skip)
        (.exit 0))
       (.seq
        (.block 1
         (.seq
          (.ops [
            ⟨some 8, none, .mv (.tmp 6)⟩,
            ⟨some 2, none, .mv (.tmp 8)⟩])
          (.ops [
            ⟨some 9, none, .mv (.tmp 0)⟩,
            ⟨some 10, none, .call n_term_Term_g [(.tmp 9)]⟩,
            ⟨some 11, none, .mv (.tmp 2)⟩,
            ⟨some 12, none, .gen (.build t_grid_Cell #[(0, (.const (.int .i32 69)))]) t_grid_Cell⟩,
            ⟨some 13, none, .call n_grid_Grid_Fill [(.tmp 10), (.tmp 11), (.const (.int .i64 0)), (.const (.int .i64 40)), (.tmp 12)]⟩])))
        (.ops [
          ⟨some 14, none, .bin .add t_int (.tmp 6) (.const (.int .i64 1))⟩,
          ⟨some 6, none, .mv (.tmp 14)⟩])))))))
  (.seq
   (.ops [
     ⟨some 15, none, .mv (.tmp 0)⟩,
     ⟨some 16, none, .mv (.tmp 0)⟩,
     ⟨some 17, none, .call n_term_Term_g [(.tmp 16)]⟩,
     ⟨some 18, none, .call n_grid_Grid_Rows [(.tmp 17)]⟩,
     ⟨some 19, none, .bin .sub t_int (.tmp 18) (.const (.int .i64 1))⟩,
     ⟨some 20, none, .call n_term_Term_region [(.tmp 15), (.const (.int .i64 0)), (.tmp 19)]⟩])
   (.ops [
     ⟨some 21, none, .mv (.tmp 0)⟩,
     ⟨some 22, none, .call n_term_Term_move [(.tmp 21), (.const (.int .i64 0)), (.const (.int .i64 0))]⟩]))),
 []⟩

/-- (*term.Term).back -/
def a_term_Term_back : AFn := ⟨38,
 (.seq
  (.ops [
    ⟨some 2, none, .mv (.tmp 0)⟩,
    ⟨some 3, none, .nil (.tmp 2)⟩,
    ⟨some 4, none, .fld 7 (.tmp 3)⟩,
    ⟨none, none, .store 1 (.tmp 4) (.const (.bool false))⟩])
  (.seq
   (.seq
    (.plan [
      (⟨some 5, none, .mv (.tmp 0)⟩, []),
      (⟨some 6, none, .nil (.tmp 5)⟩, []),
      (⟨some 7, none, .fld 5 (.tmp 6)⟩, []),
      (⟨some 8, none, .load1 (.tmp 7)⟩, []),
      (⟨some 9, none, .mv (.tmp 0)⟩, []),
      (⟨some 10, none, .nil (.tmp 9)⟩, []),
      (⟨some 11, none, .fld 11 (.tmp 10)⟩, []),
      (⟨some 12, none, .load1 (.tmp 11)⟩, []),
      (⟨some 13, none, .bin .eql t_int (.tmp 8) (.tmp 12)⟩, [])])
    (.cond (.tmp 13)
     (.seq
      (.plan [
        (⟨some 14, none, .mv (.tmp 0)⟩, []),
        (⟨some 16, none, .mv (.tmp 0)⟩, []),
        (⟨some 17, none, .nil (.tmp 16)⟩, []),
        (⟨some 18, none, .fld 11 (.tmp 17)⟩, []),
        (⟨some 19, none, .load1 (.tmp 18)⟩, []),
        (⟨some 20, none, .mv (.tmp 0)⟩, []),
        (⟨some 21, none, .nil (.tmp 20)⟩, []),
        (⟨some 22, none, .fld 12 (.tmp 21)⟩, []),
        (⟨some 23, none, .load1 (.tmp 22)⟩, []),
        (⟨some 24, none, .mv (.tmp 0)⟩, []),
        (⟨some 15, none, .call n_term_Term_g [(.tmp 14)]⟩, [⟨some 19, none, .load1 (.tmp 18)⟩, ⟨some 23, none, .load1 (.tmp 22)⟩]),
        (⟨some 25, none, .call n_term_Term_erased [(.tmp 24)]⟩, [⟨some 19, none, .load1 (.tmp 18)⟩, ⟨some 23, none, .load1 (.tmp 22)⟩]),
        (⟨some 26, none, .call n_grid_Grid_Down [(.tmp 15), (.tmp 19), (.tmp 23), (.const (.int .i64 1)), (.tmp 25)]⟩, [])])
      (.ret))
     (.skip)))
   (.plan [
     (⟨some 27, none, .mv (.tmp 0)⟩, []),
     (⟨some 28, none, .mv (.tmp 0)⟩, []),
     (⟨some 29, none, .nil (.tmp 28)⟩, []),
     (⟨some 30, none, .fld 5 (.tmp 29)⟩, []),
     (⟨some 31, none, .load1 (.tmp 30)⟩, []),
     (⟨some 32, none, .bin .sub t_int (.tmp 31) (.const (.int .i64 1))⟩, []),
     (⟨some 33, none, .mv (.tmp 0)⟩, []),
     (⟨some 34, none, .nil (.tmp 33)⟩, []),
     (⟨some 35, none, .fld 6 (.tmp 34)⟩, []),
     (⟨some 36, none, .load1 (.tmp 35)⟩, []),
     (⟨some 37, none, .call n_term_Term_move [(.tmp 27), (.tmp 32), (.tmp 36)]⟩, [])]))),
 []⟩

/-- (*term.Term).save -/
def a_term_Term_save : AFn := ⟨23,
 (.plan [
   (⟨some 2, none, .mv (.tmp 0)⟩, []),
   (⟨some 3, none, .mv (.tmp 0)⟩, []),
   (⟨some 4, none, .nil (.tmp 3)⟩, []),
   (⟨some 5, none, .fld 5 (.tmp 4)⟩, []),
   (⟨some 6, none, .load1 (.tmp 5)⟩, []),
   (⟨some 7, none, .mv (.tmp 0)⟩, []),
   (⟨some 8, none, .nil (.tmp 7)⟩, []),
   (⟨some 9, none, .fld 6 (.tmp 8)⟩, []),
   (⟨some 10, none, .load1 (.tmp 9)⟩, []),
   (⟨some 11, none, .mv (.tmp 0)⟩, []),
   (⟨some 12, none, .nil (.tmp 11)⟩, []),
   (⟨some 13, none, .fld 8 (.tmp 12)⟩, []),
   (⟨some 14, none, .loadN 3 (.tmp 13)⟩, []),
   (⟨some 15, none, .mv (.tmp 0)⟩, []),
   (⟨some 16, none, .nil (.tmp 15)⟩, []),
   (⟨some 17, none, .fld 13 (.tmp 16)⟩, []),
   (⟨some 18, none, .fld 2 (.tmp 17)⟩, []),
   (⟨some 19, none, .load1 (.tmp 18)⟩, []),
   (⟨some 20, none, .gen (.build t_term_saved #[(0, (.tmp 6)), (1, (.tmp 10)), (2, (.tmp 14)), (3, (.tmp 19))]) t_term_saved⟩, []),
   (⟨some 21, none, .nil (.tmp 2)⟩, []),
   (⟨some 22, none, .fld 57 (.tmp 21)⟩, []),
   (⟨none, none, .store 6 (.tmp 22) (.tmp 20)⟩, [])]),
 []⟩

/-- (*term.Term).restore -/
def a_term_Term_restore : AFn := ⟨31,
 (.seq
  (.plan [
    (⟨some 2, none, .mv (.tmp 0)⟩, []),
    (⟨some 3, none, .mv (.tmp 0)⟩, []),
    (⟨some 4, none, .mv (.tmp 0)⟩, []),
    (⟨some 5, none, .nil (.tmp 4)⟩, []),
    (⟨some 6, none, .fld 57 (.tmp 5)⟩, []),
    (⟨some 7, none, .fld 2 (.tmp 6)⟩, []),
    (⟨some 8, none, .loadN 3 (.tmp 7)⟩, []),
    (⟨some 9, none, .mv (.tmp 0)⟩, []),
    (⟨some 10, none, .nil (.tmp 9)⟩, []),
    (⟨some 11, none, .fld 57 (.tmp 10)⟩, []),
    (⟨some 12, none, .fld 5 (.tmp 11)⟩, []),
    (⟨some 13, none, .load1 (.tmp 12)⟩, []),
    (⟨some 14, none, .nil (.tmp 2)⟩, []),
    (⟨some 15, none, .fld 8 (.tmp 14)⟩, []),
    (⟨none, none, .store 3 (.tmp 15) (.tmp 8)⟩, []),
    (⟨some 16, none, .nil (.tmp 3)⟩, []),
    (⟨some 17, none, .fld 13 (.tmp 16)⟩, []),
    (⟨some 18, none, .fld 2 (.tmp 17)⟩, []),
    (⟨none, none, .store 1 (.tmp 18) (.tmp 13)⟩, [])])
  (.plan [
    (⟨some 19, none, .mv (.tmp 0)⟩, []),
    (⟨some 20, none, .mv (.tmp 0)⟩, []),
    (⟨some 21, none, .nil (.tmp 20)⟩, []),
    (⟨some 22, none, .fld 57 (.tmp 21)⟩, []),
    (⟨some 23, none, .fld 0 (.tmp 22)⟩, []),
    (⟨some 24, none, .load1 (.tmp 23)⟩, []),
    (⟨some 25, none, .mv (.tmp 0)⟩, []),
    (⟨some 26, none, .nil (.tmp 25)⟩, []),
    (⟨some 27, none, .fld 57 (.tmp 26)⟩, []),
    (⟨some 28, none, .fld 1 (.tmp 27)⟩, []),
    (⟨some 29, none, .load1 (.tmp 28)⟩, []),
    (⟨some 30, none, .call n_term_Term_move [(.tmp 19), (.tmp 24), (.tmp 29)]⟩, [])])),
 []⟩

/-- (*term.Term).mode -/
def a_term_Term_mode : AFn := ⟨38,
 (.seq
  (.ops [
    ⟨some 6, none, .mv (.tmp 1)⟩])
  (.block 0
   (.seq
    (.ops [
      ⟨some 8, none, .bin .eql t_int (.tmp 6) (.const (.int .i64 6))⟩,
      ⟨some 7, none, .mv (.tmp 8)⟩])
    (.cond (.tmp 7)
     (.seq
      (.ops [
        ⟨some 9, none, .mv (.tmp 0)⟩,
        ⟨some 10, none, .mv (.tmp 2)⟩,
        ⟨some 11, none, .nil (.tmp 9)⟩,
        ⟨some 12, none, .fld 13 (.tmp 11)⟩,
        ⟨some 13, none, .fld 2 (.tmp 12)⟩,
        ⟨none, none, .store 1 (.tmp 13) (.tmp 10)⟩])
      (.ops [
        ⟨some 14, none, .mv (.tmp 0)⟩,
        ⟨some 15, none, .call n_term_Term_home [(.tmp 14)]⟩]))
     (.seq
      (.ops [
        ⟨some 17, none, .bin .eql t_int (.tmp 6) (.const (.int .i64 7))⟩,
        ⟨some 16, none, .mv (.tmp 17)⟩])
      (.cond (.tmp 16)
       (.ops [
         ⟨some 18, none, .mv (.tmp 0)⟩,
         ⟨some 19, none, .mv (.tmp 2)⟩,
         ⟨some 20, none, .nil (.tmp 18)⟩,
         ⟨some 21, none, .fld 13 (.tmp 20)⟩,
         ⟨some 22, none, .fld 0 (.tmp 21)⟩,
         ⟨none, none, .store 1 (.tmp 22) (.tmp 19)⟩])
       (.seq
        (.ops [
          ⟨some 24, none, .bin .eql t_int (.tmp 6) (.const (.int .i64 25))⟩,
          ⟨some 23, none, .mv (.tmp 24)⟩])
        (.cond (.tmp 23)
         (.ops [
           ⟨some 25, none, .mv (.tmp 0)⟩,
           ⟨some 26, none, .mv (.tmp 2)⟩,
           ⟨some 27, none, .nil (.tmp 25)⟩,
           ⟨some 28, none, .fld 13 (.tmp 27)⟩,
           ⟨some 29, none, .fld 3 (.tmp 28)⟩,
           ⟨none, none, .store 1 (.tmp 29) (.tmp 26)⟩])
         (.seq
          (.seq
           (.ops [
             ⟨some 31, none, .bin .eql t_int (.tmp 6) (.const (.int .i64 1047))⟩,
             ⟨some 30, none, .mv (.tmp 31)⟩])
           (.cond (.tmp 30)
            (.skip)
            (.ops [
              ⟨some 32, none, .bin .eql t_int (.tmp 6) (.const (.int .i64 1049))⟩,
              ⟨some 30, none, .mv (.tmp 32)⟩])))
          (.cond (.tmp 30)
           (.seq
            (.ops [
              ⟨some 33, none, .mv (.tmp 2)⟩])
            (.cond (.tmp 33)
             (.ops [
               ⟨some 34, none, .mv (.tmp 0)⟩,
               ⟨some 35, none, .call n_term_Term_screen [(.tmp 34), (.const (.int .i64 1))]⟩])
             (.ops [
               ⟨some 36, none, .mv (.tmp 0)⟩,
               ⟨some 37, none, .call n_term_Term_screen [(.tmp 36), (.const (.int .i64 0))]⟩])))
           (.skip))))))))))),
 []⟩

/-- (*term.Term).travel -/
def a_term_Term_travel : AFn := ⟨104,
 (.seq
  (.ops [
    ⟨some 3, none, .box t_ansi_Event (.tmp 1)⟩,
    ⟨some 4, none, .mv (.const (.bool false))⟩])
  (.seq
   (.ops [
     ⟨some 6, none, .loadN 7 (.tmp 3)⟩,
     ⟨some 7, none, .call n_term_number [(.tmp 6), (.const (.int .i64 0)), (.const (.int .i64 1))]⟩,
     ⟨some 5, none, .mv (.tmp 7)⟩])
   (.seq
    (.seq
     (.ops [
       ⟨some 8, none, .fld 4 (.tmp 3)⟩,
       ⟨some 9, none, .load1 (.tmp 8)⟩])
     (.block 0
      (.seq
       (.ops [
         ⟨some 11, none, .bin .eql t_uint8 (.tmp 9) (.const (.int .u8 65))⟩,
         ⟨some 10, none, .mv (.tmp 11)⟩])
       (.cond (.tmp 10)
        (.ops [
          ⟨some 12, none, .mv (.tmp 0)⟩,
          ⟨some 13, none, .mv (.tmp 5)⟩,
          ⟨some 14, none, .mv (.tmp 0)⟩,
          ⟨some 15, none, .nil (.tmp 14)⟩,
          ⟨some 16, none, .fld 6 (.tmp 15)⟩,
          ⟨some 17, none, .load1 (.tmp 16)⟩,
          ⟨some 18, none, .call n_term_Term_up [(.tmp 12), (.tmp 13), (.tmp 17)]⟩])
        (.seq
         (.ops [
           ⟨some 20, none, .bin .eql t_uint8 (.tmp 9) (.const (.int .u8 66))⟩,
           ⟨some 19, none, .mv (.tmp 20)⟩])
         (.cond (.tmp 19)
          (.ops [
            ⟨some 21, none, .mv (.tmp 0)⟩,
            ⟨some 22, none, .mv (.tmp 5)⟩,
            ⟨some 23, none, .mv (.tmp 0)⟩,
            ⟨some 24, none, .nil (.tmp 23)⟩,
            ⟨some 25, none, .fld 6 (.tmp 24)⟩,
            ⟨some 26, none, .load1 (.tmp 25)⟩,
            ⟨some 27, none, .call n_term_Term_down [(.tmp 21), (.tmp 22), (.tmp 26)]⟩])
          (.seq
           (.ops [
             ⟨some 29, none, .bin .eql t_uint8 (.tmp 9) (.const (.int .u8 67))⟩,
             ⟨some 28, none, .mv (.tmp 29)⟩])
           (.cond (.tmp 28)
            (.plan [
              (⟨some 30, none, .mv (.tmp 0)⟩, []),
              (⟨some 31, none, .mv (.tmp 0)⟩, []),
              (⟨some 32, none, .nil (.tmp 31)⟩, []),
              (⟨some 33, none, .fld 5 (.tmp 32)⟩, []),
              (⟨some 34, none, .load1 (.tmp 33)⟩, []),
              (⟨some 35, none, .mv (.tmp 0)⟩, []),
              (⟨some 36, none, .nil (.tmp 35)⟩, []),
              (⟨some 37, none, .fld 6 (.tmp 36)⟩, []),
              (⟨some 38, none, .load1 (.tmp 37)⟩, []),
              (⟨some 39, none, .mv (.tmp 5)⟩, []),
              (⟨some 40, none, .bin .add t_int (.tmp 38) (.tmp 39)⟩, []),
              (⟨some 41, none, .call n_term_Term_move [(.tmp 30), (.tmp 34), (.tmp 40)]⟩, [])])
            (.seq
             (.ops [
               ⟨some 43, none, .bin .eql t_uint8 (.tmp 9) (.const (.int .u8 68))⟩,
               ⟨some 42, none, .mv (.tmp 43)⟩])
             (.cond (.tmp 42)
              (.plan [
                (⟨some 44, none, .mv (.tmp 0)⟩, []),
                (⟨some 45, none, .mv (.tmp 0)⟩, []),
                (⟨some 46, none, .nil (.tmp 45)⟩, []),
                (⟨some 47, none, .fld 5 (.tmp 46)⟩, []),
                (⟨some 48, none, .load1 (.tmp 47)⟩, []),
                (⟨some 49, none, .mv (.tmp 0)⟩, []),
                (⟨some 50, none, .nil (.tmp 49)⟩, []),
                (⟨some 51, none, .fld 6 (.tmp 50)⟩, []),
                (⟨some 52, none, .load1 (.tmp 51)⟩, []),
                (⟨some 53, none, .mv (.tmp 5)⟩, []),
                (⟨some 54, none, .bin .sub t_int (.tmp 52) (.tmp 53)⟩, []),
                (⟨some 55, none, .call n_term_Term_move [(.tmp 44), (.tmp 48), (.tmp 54)]⟩, [])])
              (.seq
               (.ops [
                 ⟨some 57, none, .bin .eql t_uint8 (.tmp 9) (.const (.int .u8 69))⟩,
                 ⟨some 56, none, .mv (.tmp 57)⟩])
               (.cond (.tmp 56)
                (.ops [
                  ⟨some 58, none, .mv (.tmp 0)⟩,
                  ⟨some 59, none, .mv (.tmp 5)⟩,
                  ⟨some 60, none, .call n_term_Term_down [(.tmp 58), (.tmp 59), (.const (.int .i64 0))]⟩])
                (.seq
                 (.ops [
                   ⟨some 62, none, .bin .eql t_uint8 (.tmp 9) (.const (.int .u8 70))⟩,
                   ⟨some 61, none, .mv (.tmp 62)⟩])
                 (.cond (.tmp 61)
                  (.ops [
                    ⟨some 63, none, .mv (.tmp 0)⟩,
                    ⟨some 64, none, .mv (.tmp 5)⟩,
                    ⟨some 65, none, .call n_term_Term_up [(.tmp 63), (.tmp 64), (.const (.int .i64 0))]⟩])
                  (.seq
                   (.ops [
                     ⟨some 67, none, .bin .eql t_uint8 (.tmp 9) (.const (.int .u8 71))⟩,
                     ⟨some 66, none, .mv (.tmp 67)⟩])
                   (.cond (.tmp 66)
                    (.ops [
                      ⟨some 68, none, .mv (.tmp 0)⟩,
                      ⟨some 69, none, .mv (.tmp 0)⟩,
                      ⟨some 70, none, .nil (.tmp 69)⟩,
                      ⟨some 71, none, .fld 5 (.tmp 70)⟩,
                      ⟨some 72, none, .load1 (.tmp 71)⟩,
                      ⟨some 73, none, .mv (.tmp 5)⟩,
                      ⟨some 74, none, .bin .sub t_int (.tmp 73) (.const (.int .i64 1))⟩,
                      ⟨some 75, none, .call n_term_Term_move [(.tmp 68), (.tmp 72), (.tmp 74)]⟩])
                    (.seq
                     (.ops [
                       ⟨some 77, none, .bin .eql t_uint8 (.tmp 9) (.const (.int .u8 100))⟩,
                       ⟨some 76, none, .mv (.tmp 77)⟩])
                     (.cond (.tmp 76)
                      (.ops [
                        ⟨some 78, none, .mv (.tmp 0)⟩,
                        ⟨some 79, none, .mv (.tmp 5)⟩,
                        ⟨some 80, none, .bin .sub t_int (.tmp 79) (.const (.int .i64 1))⟩,
                        ⟨some 81, none, .mv (.tmp 0)⟩,
                        ⟨some 82, none, .nil (.tmp 81)⟩,
                        ⟨some 83, none, .fld 6 (.tmp 82)⟩,
                        ⟨some 84, none, .load1 (.tmp 83)⟩,
                        ⟨some 85, none, .call n_term_Term_place [(.tmp 78), (.tmp 80), (.tmp 84)]⟩])
                      (.seq
                       (.seq
                        (.ops [
                          ⟨some 87, none, .bin .eql t_uint8 (.tmp 9) (.const (.int .u8 72))⟩,
                          ⟨some 86, none, .mv (.tmp 87)⟩])
                        (.cond (.tmp 86)
                         (.skip)
                         (.ops [
                           ⟨some 88, none, .bin .eql t_uint8 (.tmp 9) (.const (.int .u8 102))⟩,
                           ⟨some 86, none, .mv (.tmp 88)⟩])))
                       (.cond (.tmp 86)
                        (.ops [
                          ⟨some 89, none, .mv (.tmp 0)⟩,
                          ⟨some 90, none, .mv (.tmp 5)⟩,
                          ⟨some 91, none, .bin .sub t_int (.tmp 90) (.const (.int .i64 1))⟩,
                          ⟨some 92, none, .loadN 7 (.tmp 3)⟩,
                          ⟨some 93, none, .call n_term_number [(.tmp 92), (.const (.int .i64 1)), (.const (.int .i64 1))]⟩,
                          ⟨some 94, none, .bin .sub t_int (.tmp 93) (.const (.int .i64 1))⟩,
                          ⟨some 95, none, .call n_term_Term_place [(.tmp 89), (.tmp 91), (.tmp 94)]⟩])
                        (.seq
                         (.ops [
                           ⟨some 97, none, .bin .eql t_uint8 (.tmp 9) (.const (.int .u8 115))⟩,
                           ⟨some 96, none, .mv (.tmp 97)⟩])
                         (.cond (.tmp 96)
                          (.ops [
                            ⟨some 98, none, .mv (.tmp 0)⟩,
                            ⟨some 99, none, .call n_term_Term_save [(.tmp 98)]⟩])
                          (.seq
                           (.ops [
                             ⟨some 101, none, .bin .eql t_uint8 (.tmp 9) (.const (.int .u8 117))⟩,
                             ⟨some 100, none, .mv (.tmp 101)⟩])
                           (.cond (.tmp 100)
                            (.ops [
                              ⟨some 102, none, .mv (.tmp 0)⟩,
                              ⟨some 103, none, .call n_term_Term_restore [(.tmp 102)]⟩])
                            (.seq
                             (.ops [
                               ⟨some 4, none, .mv (.const (.bool false))⟩])
                             (.ret))))))))))))))))))))))))))
    (.seq
     (.ops [
       ⟨some 4, none, .mv (.const (.bool true))⟩])
     (.ret))))),
 [.tmp 4]⟩


end Go.AM
