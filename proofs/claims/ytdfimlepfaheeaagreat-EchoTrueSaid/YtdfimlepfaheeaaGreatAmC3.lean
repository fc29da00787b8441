/- AmC3: that the small codes are the functions', and what the types are. -/
import Derived.Test.YtdfimlepfaheeaaGreatAmC2
import Derived.Test.YtdfimlepfaheeaaGreatAmO
import Derived.Test.YtdfimlepfaheeaaGreatProg
import Derived.KernelRfl
set_option linter.unusedVariables false
namespace Go.AM
open Go.Proofs
noncomputable def pg : Program := Tryz.prog
theorem s_0 : sizeO pg t_0 = some 1 := by kernel_rfl
theorem g_0 : aggO pg t_0 = some false := by kernel_rfl
@[simp] theorem u_int : pg.underlying t_int = some (.int .i64) := by kernel_rfl
theorem s_int : sizeO pg t_int = some 1 := by kernel_rfl
theorem g_int : aggO pg t_int = some false := by kernel_rfl
@[simp] theorem u_bool : pg.underlying t_bool = some (.bool) := by kernel_rfl
theorem s_bool : sizeO pg t_bool = some 1 := by kernel_rfl
theorem g_bool : aggO pg t_bool = some false := by kernel_rfl
@[simp] theorem u_uint8 : pg.underlying t_uint8 = some (.int .u8) := by kernel_rfl
theorem s_uint8 : sizeO pg t_uint8 = some 1 := by kernel_rfl
theorem g_uint8 : aggO pg t_uint8 = some false := by kernel_rfl
@[simp] theorem u_string : pg.underlying t_string = some (.string) := by kernel_rfl
theorem s_string : sizeO pg t_string = some 1 := by kernel_rfl
theorem g_string : aggO pg t_string = some false := by kernel_rfl
theorem s_interface : sizeO pg t_interface = some 1 := by kernel_rfl
theorem g_interface : aggO pg t_interface = some false := by kernel_rfl
@[simp] theorem u_int32 : pg.underlying t_int32 = some (.int .i32) := by kernel_rfl
theorem s_int32 : sizeO pg t_int32 = some 1 := by kernel_rfl
theorem g_int32 : aggO pg t_int32 = some false := by kernel_rfl
@[simp] theorem u_S_uint8 : pg.underlying t_S_uint8 = some (.slice t_uint8) := by kernel_rfl
theorem e_S_uint8 : elemOk pg t_S_uint8 t_uint8 1 1 = true := by kernel_rfl
theorem s_S_uint8 : sizeO pg t_S_uint8 = some 1 := by kernel_rfl
theorem g_S_uint8 : aggO pg t_S_uint8 = some false := by kernel_rfl
@[simp] theorem u_P_term_Term : pg.underlying t_P_term_Term = some (.pointer t_term_Term) := by kernel_rfl
theorem s_P_term_Term : sizeO pg t_P_term_Term = some 1 := by kernel_rfl
theorem g_P_term_Term : aggO pg t_P_term_Term = some false := by kernel_rfl
@[simp] theorem u_api_Errno : pg.underlying t_api_Errno = some (.int .i64) := by kernel_rfl
theorem s_api_Errno : sizeO pg t_api_Errno = some 1 := by kernel_rfl
theorem g_api_Errno : aggO pg t_api_Errno = some false := by kernel_rfl
theorem s_P_term_Term_api_Errno : sizeO pg t_P_term_Term_api_Errno = some 1 := by kernel_rfl
theorem g_P_term_Term_api_Errno : aggO pg t_P_term_Term_api_Errno = some false := by kernel_rfl
@[simp] theorem u_P_echo_Echo : pg.underlying t_P_echo_Echo = some (.pointer t_echo_Echo) := by kernel_rfl
theorem s_P_echo_Echo : sizeO pg t_P_echo_Echo = some 1 := by kernel_rfl
theorem g_P_echo_Echo : aggO pg t_P_echo_Echo = some false := by kernel_rfl
@[simp] theorem u_S_grid_Cell : pg.underlying t_S_grid_Cell = some (.slice t_grid_Cell) := by kernel_rfl
theorem e_S_grid_Cell : elemOk pg t_S_grid_Cell t_grid_Cell 4 16 = true := by kernel_rfl
theorem s_S_grid_Cell : sizeO pg t_S_grid_Cell = some 1 := by kernel_rfl
theorem g_S_grid_Cell : aggO pg t_S_grid_Cell = some false := by kernel_rfl
theorem s_view_View : sizeO pg t_view_View = some 6 := by kernel_rfl
theorem g_view_View : aggO pg t_view_View = some true := by kernel_rfl
@[simp] theorem u_uint64 : pg.underlying t_uint64 = some (.int .u64) := by kernel_rfl
theorem s_uint64 : sizeO pg t_uint64 = some 1 := by kernel_rfl
theorem g_uint64 : aggO pg t_uint64 = some false := by kernel_rfl
theorem s_reg_State : sizeO pg t_reg_State = some 10 := by kernel_rfl
theorem g_reg_State : aggO pg t_reg_State = some true := by kernel_rfl
theorem s_reg_State_api_Errno : sizeO pg t_reg_State_api_Errno = some 1 := by kernel_rfl
theorem g_reg_State_api_Errno : aggO pg t_reg_State_api_Errno = some false := by kernel_rfl
@[simp] theorem u_S_echo_Guess : pg.underlying t_S_echo_Guess = some (.slice t_echo_Guess) := by kernel_rfl
theorem e_S_echo_Guess : elemOk pg t_S_echo_Guess t_echo_Guess 4 32 = true := by kernel_rfl
theorem s_S_echo_Guess : sizeO pg t_S_echo_Guess = some 1 := by kernel_rfl
theorem g_S_echo_Guess : aggO pg t_S_echo_Guess = some false := by kernel_rfl
theorem s_view_View_api_Errno : sizeO pg t_view_View_api_Errno = some 1 := by kernel_rfl
theorem g_view_View_api_Errno : aggO pg t_view_View_api_Errno = some false := by kernel_rfl
@[simp] theorem u_uint32 : pg.underlying t_uint32 = some (.int .u32) := by kernel_rfl
theorem s_uint32 : sizeO pg t_uint32 = some 1 := by kernel_rfl
theorem g_uint32 : aggO pg t_uint32 = some false := by kernel_rfl
theorem s_style_Style : sizeO pg t_style_Style = some 3 := by kernel_rfl
theorem g_style_Style : aggO pg t_style_Style = some true := by kernel_rfl
theorem s_grid_Cell : sizeO pg t_grid_Cell = some 4 := by kernel_rfl
theorem g_grid_Cell : aggO pg t_grid_Cell = some true := by kernel_rfl
@[simp] theorem u_S_longlinelaw19_Op : pg.underlying t_S_longlinelaw19_Op = some (.slice t_longlinelaw19_Op) := by kernel_rfl
theorem e_S_longlinelaw19_Op : elemOk pg t_S_longlinelaw19_Op t_longlinelaw19_Op 3 40 = true := by kernel_rfl
theorem s_S_longlinelaw19_Op : sizeO pg t_S_longlinelaw19_Op = some 1 := by kernel_rfl
theorem g_S_longlinelaw19_Op : aggO pg t_S_longlinelaw19_Op = some false := by kernel_rfl
theorem s_longlinelaw19_Op : sizeO pg t_longlinelaw19_Op = some 3 := by kernel_rfl
theorem g_longlinelaw19_Op : aggO pg t_longlinelaw19_Op = some true := by kernel_rfl
@[simp] theorem u_S_longlineref17_Cell : pg.underlying t_S_longlineref17_Cell = some (.slice t_longlineref17_Cell) := by kernel_rfl
theorem e_S_longlineref17_Cell : elemOk pg t_S_longlineref17_Cell t_longlineref17_Cell 11 20 = true := by kernel_rfl
theorem s_S_longlineref17_Cell : sizeO pg t_S_longlineref17_Cell = some 1 := by kernel_rfl
theorem g_S_longlineref17_Cell : aggO pg t_S_longlineref17_Cell = some false := by kernel_rfl
theorem s_longlineref17_Grid : sizeO pg t_longlineref17_Grid = some 3 := by kernel_rfl
theorem g_longlineref17_Grid : aggO pg t_longlineref17_Grid = some true := by kernel_rfl
@[simp] theorem u_S_int32 : pg.underlying t_S_int32 = some (.slice t_int32) := by kernel_rfl
theorem e_S_int32 : elemOk pg t_S_int32 t_int32 1 4 = true := by kernel_rfl
theorem s_S_int32 : sizeO pg t_S_int32 = some 1 := by kernel_rfl
theorem g_S_int32 : aggO pg t_S_int32 = some false := by kernel_rfl
@[simp] theorem u_8_bool : pg.underlying t_8_bool = some (.array 8 t_bool) := by kernel_rfl
theorem s_8_bool : sizeO pg t_8_bool = some 8 := by kernel_rfl
theorem g_8_bool : aggO pg t_8_bool = some true := by kernel_rfl
theorem s_longlineref16_Style : sizeO pg t_longlineref16_Style = some 10 := by kernel_rfl
theorem g_longlineref16_Style : aggO pg t_longlineref16_Style = some true := by kernel_rfl
@[simp] theorem u_40_bool : pg.underlying t_40_bool = some (.array 40 t_bool) := by kernel_rfl
theorem s_40_bool : sizeO pg t_40_bool = some 40 := by kernel_rfl
theorem g_40_bool : aggO pg t_40_bool = some true := by kernel_rfl
theorem s_longlineref20_View : sizeO pg t_longlineref20_View = some 6 := by kernel_rfl
theorem g_longlineref20_View : aggO pg t_longlineref20_View = some true := by kernel_rfl
theorem s_string_int : sizeO pg t_string_int = some 1 := by kernel_rfl
theorem g_string_int : aggO pg t_string_int = some false := by kernel_rfl
@[simp] theorem u_P_grid_Grid : pg.underlying t_P_grid_Grid = some (.pointer t_grid_Grid) := by kernel_rfl
theorem s_P_grid_Grid : sizeO pg t_P_grid_Grid = some 1 := by kernel_rfl
theorem g_P_grid_Grid : aggO pg t_P_grid_Grid = some false := by kernel_rfl
theorem s_int_int_bool : sizeO pg t_int_int_bool = some 1 := by kernel_rfl
theorem g_int_int_bool : aggO pg t_int_int_bool = some false := by kernel_rfl
@[simp] theorem u_P_utf_Reader : pg.underlying t_P_utf_Reader = some (.pointer t_utf_Reader) := by kernel_rfl
theorem s_P_utf_Reader : sizeO pg t_P_utf_Reader = some 1 := by kernel_rfl
theorem g_P_utf_Reader : aggO pg t_P_utf_Reader = some false := by kernel_rfl
@[simp] theorem u_P_ansi_Parser : pg.underlying t_P_ansi_Parser = some (.pointer t_ansi_Parser) := by kernel_rfl
theorem s_P_ansi_Parser : sizeO pg t_P_ansi_Parser = some 1 := by kernel_rfl
theorem g_P_ansi_Parser : aggO pg t_P_ansi_Parser = some false := by kernel_rfl
@[simp] theorem u_2_P_grid_Grid : pg.underlying t_2_P_grid_Grid = some (.array 2 t_P_grid_Grid) := by kernel_rfl
theorem s_2_P_grid_Grid : sizeO pg t_2_P_grid_Grid = some 2 := by kernel_rfl
theorem g_2_P_grid_Grid : aggO pg t_2_P_grid_Grid = some true := by kernel_rfl
theorem s_term_modes : sizeO pg t_term_modes = some 4 := by kernel_rfl
theorem g_term_modes : aggO pg t_term_modes = some true := by kernel_rfl
theorem s_term_saved : sizeO pg t_term_saved = some 6 := by kernel_rfl
theorem g_term_saved : aggO pg t_term_saved = some true := by kernel_rfl
theorem s_term_Term : sizeO pg t_term_Term = some 67 := by kernel_rfl
theorem g_term_Term : aggO pg t_term_Term = some true := by kernel_rfl
theorem s_P_grid_Grid_api_Errno : sizeO pg t_P_grid_Grid_api_Errno = some 1 := by kernel_rfl
theorem g_P_grid_Grid_api_Errno : aggO pg t_P_grid_Grid_api_Errno = some false := by kernel_rfl
theorem s_echo_place : sizeO pg t_echo_place = some 2 := by kernel_rfl
theorem g_echo_place : aggO pg t_echo_place = some true := by kernel_rfl
theorem s_echo_Echo : sizeO pg t_echo_Echo = some 18 := by kernel_rfl
theorem g_echo_Echo : aggO pg t_echo_Echo = some true := by kernel_rfl
theorem s_echo_Guess : sizeO pg t_echo_Guess = some 4 := by kernel_rfl
theorem g_echo_Guess : aggO pg t_echo_Guess = some true := by kernel_rfl
theorem s_S_int32_api_Errno : sizeO pg t_S_int32_api_Errno = some 1 := by kernel_rfl
theorem g_S_int32_api_Errno : aggO pg t_S_int32_api_Errno = some false := by kernel_rfl
@[simp] theorem u_S_ansi_Event : pg.underlying t_S_ansi_Event = some (.slice t_ansi_Event) := by kernel_rfl
theorem e_S_ansi_Event : elemOk pg t_S_ansi_Event t_ansi_Event 7 56 = true := by kernel_rfl
theorem s_S_ansi_Event : sizeO pg t_S_ansi_Event = some 1 := by kernel_rfl
theorem g_S_ansi_Event : aggO pg t_S_ansi_Event = some false := by kernel_rfl
theorem s_S_ansi_Event_api_Errno : sizeO pg t_S_ansi_Event_api_Errno = some 1 := by kernel_rfl
theorem g_S_ansi_Event_api_Errno : aggO pg t_S_ansi_Event_api_Errno = some false := by kernel_rfl
@[simp] theorem u_S_int : pg.underlying t_S_int = some (.slice t_int) := by kernel_rfl
theorem e_S_int : elemOk pg t_S_int t_int 1 8 = true := by kernel_rfl
theorem s_S_int : sizeO pg t_S_int = some 1 := by kernel_rfl
theorem g_S_int : aggO pg t_S_int = some false := by kernel_rfl
theorem s_ansi_Event : sizeO pg t_ansi_Event = some 7 := by kernel_rfl
theorem g_ansi_Event : aggO pg t_ansi_Event = some true := by kernel_rfl
theorem s_S_uint8_api_Errno : sizeO pg t_S_uint8_api_Errno = some 1 := by kernel_rfl
theorem g_S_uint8_api_Errno : aggO pg t_S_uint8_api_Errno = some false := by kernel_rfl
theorem s_S_grid_Cell_api_Errno : sizeO pg t_S_grid_Cell_api_Errno = some 1 := by kernel_rfl
theorem g_S_grid_Cell_api_Errno : aggO pg t_S_grid_Cell_api_Errno = some false := by kernel_rfl
theorem s_func_grid_Cell_bool : sizeO pg t_func_grid_Cell_bool = some 1 := by kernel_rfl
theorem g_func_grid_Cell_bool : aggO pg t_func_grid_Cell_bool = some false := by kernel_rfl
theorem s_longlineref17_Cell : sizeO pg t_longlineref17_Cell = some 11 := by kernel_rfl
theorem g_longlineref17_Cell : aggO pg t_longlineref17_Cell = some true := by kernel_rfl
@[simp] theorem u_S_S_grid_Cell : pg.underlying t_S_S_grid_Cell = some (.slice t_S_grid_Cell) := by kernel_rfl
theorem e_S_S_grid_Cell : elemOk pg t_S_S_grid_Cell t_S_grid_Cell 1 24 = true := by kernel_rfl
theorem s_S_S_grid_Cell : sizeO pg t_S_S_grid_Cell = some 1 := by kernel_rfl
theorem g_S_S_grid_Cell : aggO pg t_S_S_grid_Cell = some false := by kernel_rfl
theorem s_grid_Grid : sizeO pg t_grid_Grid = some 2 := by kernel_rfl
theorem g_grid_Grid : aggO pg t_grid_Grid = some true := by kernel_rfl
theorem s_utf_Reader : sizeO pg t_utf_Reader = some 6 := by kernel_rfl
theorem g_utf_Reader : aggO pg t_utf_Reader = some true := by kernel_rfl
theorem s_ansi_Parser : sizeO pg t_ansi_Parser = some 14 := by kernel_rfl
theorem g_ansi_Parser : aggO pg t_ansi_Parser = some true := by kernel_rfl
@[simp] theorem u_uint : pg.underlying t_uint = some (.int .u64) := by kernel_rfl
theorem s_uint : sizeO pg t_uint = some 1 := by kernel_rfl
theorem g_uint : aggO pg t_uint = some false := by kernel_rfl
theorem s_osc_Ask : sizeO pg t_osc_Ask = some 2 := by kernel_rfl
theorem g_osc_Ask : aggO pg t_osc_Ask = some true := by kernel_rfl
theorem s_osc_Ask_api_Errno : sizeO pg t_osc_Ask_api_Errno = some 1 := by kernel_rfl
theorem g_osc_Ask_api_Errno : aggO pg t_osc_Ask_api_Errno = some false := by kernel_rfl
theorem s_uint64_int_api_Errno : sizeO pg t_uint64_int_api_Errno = some 1 := by kernel_rfl
theorem g_uint64_int_api_Errno : aggO pg t_uint64_int_api_Errno = some false := by kernel_rfl
theorem s_grid_Cell_int_api_Errno : sizeO pg t_grid_Cell_int_api_Errno = some 1 := by kernel_rfl
theorem g_grid_Cell_int_api_Errno : aggO pg t_grid_Cell_int_api_Errno = some false := by kernel_rfl
theorem s_vint_Field : sizeO pg t_vint_Field = some 2 := by kernel_rfl
theorem g_vint_Field : aggO pg t_vint_Field = some true := by kernel_rfl
@[simp] theorem u_S_vint_Field : pg.underlying t_S_vint_Field = some (.slice t_vint_Field) := by kernel_rfl
theorem e_S_vint_Field : elemOk pg t_S_vint_Field t_vint_Field 2 32 = true := by kernel_rfl
theorem s_S_vint_Field : sizeO pg t_S_vint_Field = some 1 := by kernel_rfl
theorem g_S_vint_Field : aggO pg t_S_vint_Field = some false := by kernel_rfl
theorem s_func_bool_uint8_S_uint8 : sizeO pg t_func_bool_uint8_S_uint8 = some 1 := by kernel_rfl
theorem g_func_bool_uint8_S_uint8 : aggO pg t_func_bool_uint8_S_uint8 = some false := by kernel_rfl
theorem s_reg_clipping : sizeO pg t_reg_clipping = some 2 := by kernel_rfl
theorem g_reg_clipping : aggO pg t_reg_clipping = some true := by kernel_rfl
theorem s_S_vint_Field_api_Errno : sizeO pg t_S_vint_Field_api_Errno = some 1 := by kernel_rfl
theorem g_S_vint_Field_api_Errno : aggO pg t_S_vint_Field_api_Errno = some false := by kernel_rfl
theorem s_S_uint8_bool : sizeO pg t_S_uint8_bool = some 1 := by kernel_rfl
theorem g_S_uint8_bool : aggO pg t_S_uint8_bool = some false := by kernel_rfl
theorem s_style_Style_int_api_Errno : sizeO pg t_style_Style_int_api_Errno = some 1 := by kernel_rfl
theorem g_style_Style_int_api_Errno : aggO pg t_style_Style_int_api_Errno = some false := by kernel_rfl
theorem s_uint_uint : sizeO pg t_uint_uint = some 1 := by kernel_rfl
theorem g_uint_uint : aggO pg t_uint_uint = some false := by kernel_rfl
theorem s_func_vint_Field_bool : sizeO pg t_func_vint_Field_bool = some 1 := by kernel_rfl
theorem g_func_vint_Field_bool : aggO pg t_func_vint_Field_bool = some false := by kernel_rfl
@[simp] theorem u_S_patch_run : pg.underlying t_S_patch_run = some (.slice t_patch_run) := by kernel_rfl
theorem e_S_patch_run : elemOk pg t_S_patch_run t_patch_run 2 32 = true := by kernel_rfl
theorem s_S_patch_run : sizeO pg t_S_patch_run = some 1 := by kernel_rfl
theorem g_S_patch_run : aggO pg t_S_patch_run = some false := by kernel_rfl
theorem s_S_patch_run_bool : sizeO pg t_S_patch_run_bool = some 1 := by kernel_rfl
theorem g_S_patch_run_bool : aggO pg t_S_patch_run_bool = some false := by kernel_rfl
theorem s_patch_run : sizeO pg t_patch_run = some 2 := by kernel_rfl
theorem g_patch_run : aggO pg t_patch_run = some true := by kernel_rfl
theorem s_uint32_int_bool : sizeO pg t_uint32_int_bool = some 1 := by kernel_rfl
theorem g_uint32_int_bool : aggO pg t_uint32_int_bool = some false := by kernel_rfl
@[simp] theorem u_4_uint64 : pg.underlying t_4_uint64 = some (.array 4 t_uint64) := by kernel_rfl
theorem s_4_uint64 : sizeO pg t_4_uint64 = some 4 := by kernel_rfl
theorem g_4_uint64 : aggO pg t_4_uint64 = some true := by kernel_rfl
@[simp] theorem u_2_uint32 : pg.underlying t_2_uint32 = some (.array 2 t_uint32) := by kernel_rfl
theorem s_2_uint32 : sizeO pg t_2_uint32 = some 2 := by kernel_rfl
theorem g_2_uint32 : aggO pg t_2_uint32 = some true := by kernel_rfl
@[simp] theorem u_2_uint64 : pg.underlying t_2_uint64 = some (.array 2 t_uint64) := by kernel_rfl
theorem s_2_uint64 : sizeO pg t_2_uint64 = some 2 := by kernel_rfl
theorem g_2_uint64 : aggO pg t_2_uint64 = some true := by kernel_rfl
theorem s_uint32_uint32 : sizeO pg t_uint32_uint32 = some 1 := by kernel_rfl
theorem g_uint32_uint32 : aggO pg t_uint32_uint32 = some false := by kernel_rfl
theorem s_uint64_uint64 : sizeO pg t_uint64_uint64 = some 1 := by kernel_rfl
theorem g_uint64_uint64 : aggO pg t_uint64_uint64 = some false := by kernel_rfl
@[simp] theorem u_P_style_Style : pg.underlying t_P_style_Style = some (.pointer t_style_Style) := by kernel_rfl
theorem s_P_style_Style : sizeO pg t_P_style_Style = some 1 := by kernel_rfl
theorem g_P_style_Style : aggO pg t_P_style_Style = some false := by kernel_rfl
theorem is_law35_EchoTrue : isFn pg n_law35_EchoTrue = some a_law35_EchoTrue := by kernel_rfl
theorem is_law22_RegOf : isFn pg n_law22_RegOf = some a_law22_RegOf := by kernel_rfl
theorem is_term_New : isFn pg n_term_New = some a_term_New := by kernel_rfl
theorem is_law35_alive : isFn pg n_law35_alive = some a_law35_alive := by kernel_rfl
theorem is_echo_New : isFn pg n_echo_New = some a_echo_New := by kernel_rfl
theorem is_reg_Of : isFn pg n_reg_Of = some a_reg_Of := by kernel_rfl
theorem is_echo_Echo_See : isFn pg n_echo_Echo_See = some a_echo_Echo_See := by kernel_rfl
theorem is_echo_Echo_Type : isFn pg n_echo_Echo_Type = some a_echo_Echo_Type := by kernel_rfl
theorem is_echo_Echo_Quiet : isFn pg n_echo_Echo_Quiet = some a_echo_Echo_Quiet := by kernel_rfl
theorem is_term_Term_Feed : isFn pg n_term_Term_Feed = some a_term_Term_Feed := by kernel_rfl
theorem is_echo_Echo_Hits : isFn pg n_echo_Echo_Hits = some a_echo_Echo_Hits := by kernel_rfl
theorem is_echo_Echo_Misses : isFn pg n_echo_Echo_Misses = some a_echo_Echo_Misses := by kernel_rfl
theorem is_echo_Echo_Guesses : isFn pg n_echo_Echo_Guesses = some a_echo_Echo_Guesses := by kernel_rfl
theorem is_echo_Echo_Show : isFn pg n_echo_Echo_Show = some a_echo_Echo_Show := by kernel_rfl
theorem is_law19_Fits : isFn pg n_law19_Fits = some a_law19_Fits := by kernel_rfl
theorem is_view_Of : isFn pg n_view_Of = some a_view_Of := by kernel_rfl
theorem is_view_Right : isFn pg n_view_Right = some a_view_Right := by kernel_rfl
theorem is_law20_As : isFn pg n_law20_As = some a_law20_As := by kernel_rfl
theorem is_law22_alive : isFn pg n_law22_alive = some a_law22_alive := by kernel_rfl
theorem is_term_Term_Resize : isFn pg n_term_Term_Resize = some a_term_Term_Resize := by kernel_rfl
theorem is_term_Term_Clip : isFn pg n_term_Term_Clip = some a_term_Term_Clip := by kernel_rfl
theorem is_term_Term_Grid : isFn pg n_term_Term_Grid = some a_term_Term_Grid := by kernel_rfl
theorem is_term_Term_Cursor : isFn pg n_term_Term_Cursor = some a_term_Term_Cursor := by kernel_rfl
theorem is_reg_Right : isFn pg n_reg_Right = some a_reg_Right := by kernel_rfl
theorem is_term_Term_Title : isFn pg n_term_Term_Title = some a_term_Term_Title := by kernel_rfl
theorem is_term_Term_Bells : isFn pg n_term_Term_Bells = some a_term_Term_Bells := by kernel_rfl
theorem is_grid_Grid_Rows : isFn pg n_grid_Grid_Rows = some a_grid_Grid_Rows := by kernel_rfl
theorem is_ref20_Right : isFn pg n_ref20_Right = some a_ref20_Right := by kernel_rfl
theorem is_utf_New : isFn pg n_utf_New = some a_utf_New := by kernel_rfl
theorem is_ansi_New : isFn pg n_ansi_New = some a_ansi_New := by kernel_rfl
theorem is_grid_New : isFn pg n_grid_New = some a_grid_New := by kernel_rfl
theorem is_term_Term_reset : isFn pg n_term_Term_reset = some a_term_Term_reset := by kernel_rfl
theorem is_reg_First : isFn pg n_reg_First = some a_reg_First := by kernel_rfl
theorem is_law35_wide : isFn pg n_law35_wide = some a_law35_wide := by kernel_rfl
theorem is_echo_Echo_rest : isFn pg n_echo_Echo_rest = some a_echo_Echo_rest := by kernel_rfl
theorem is_echo_Echo_is : isFn pg n_echo_Echo_is = some a_echo_Echo_is := by kernel_rfl
theorem is_slices_Clone_grid_Cell_grid_Cell : isFn pg n_slices_Clone_grid_Cell_grid_Cell = some a_slices_Clone_grid_Cell_grid_Cell := by kernel_rfl
theorem is_echo_Echo_right : isFn pg n_echo_Echo_right = some a_echo_Echo_right := by kernel_rfl
theorem is_echo_Echo_giveUp : isFn pg n_echo_Echo_giveUp = some a_echo_Echo_giveUp := by kernel_rfl
theorem is_slices_Clone_echo_Guess_echo_Guess : isFn pg n_slices_Clone_echo_Guess_echo_Guess = some a_slices_Clone_echo_Guess_echo_Guess := by kernel_rfl
theorem is_echo_Echo_print : isFn pg n_echo_Echo_print = some a_echo_Echo_print := by kernel_rfl
theorem is_echo_Echo_rub : isFn pg n_echo_Echo_rub = some a_echo_Echo_rub := by kernel_rfl
theorem is_term_Term_made : isFn pg n_term_Term_made = some a_term_Term_made := by kernel_rfl
theorem is_utf_Reader_Read : isFn pg n_utf_Reader_Read = some a_utf_Reader_Read := by kernel_rfl
theorem is_ansi_Parser_Feed : isFn pg n_ansi_Parser_Feed = some a_ansi_Parser_Feed := by kernel_rfl
theorem is_term_Term_print : isFn pg n_term_Term_print = some a_term_Term_print := by kernel_rfl
theorem is_term_Term_control : isFn pg n_term_Term_control = some a_term_Term_control := by kernel_rfl
theorem is_term_Term_escape : isFn pg n_term_Term_escape = some a_term_Term_escape := by kernel_rfl
theorem is_term_Term_sequence : isFn pg n_term_Term_sequence = some a_term_Term_sequence := by kernel_rfl
theorem is_term_Term_system : isFn pg n_term_Term_system = some a_term_Term_system := by kernel_rfl
theorem is_echo_index : isFn pg n_echo_index = some a_echo_index := by kernel_rfl
theorem is_view_First : isFn pg n_view_First = some a_view_First := by kernel_rfl
theorem is_view_Same : isFn pg n_view_Same = some a_view_Same := by kernel_rfl
theorem is_grid_Grid_Cols : isFn pg n_grid_Grid_Cols = some a_grid_Grid_Cols := by kernel_rfl
theorem is_grid_Grid_Line : isFn pg n_grid_Grid_Line = some a_grid_Grid_Line := by kernel_rfl
theorem is_slices_ContainsFunc_grid_Cell_grid_Cell : isFn pg n_slices_ContainsFunc_grid_Cell_grid_Cell = some a_slices_ContainsFunc_grid_Cell_grid_Cell := by kernel_rfl
theorem is_view_Right_1 : isFn pg n_view_Right_1 = some a_view_Right_1 := by kernel_rfl
theorem is_view_isCell : isFn pg n_view_isCell = some a_view_isCell := by kernel_rfl
theorem is_law17_Cell : isFn pg n_law17_Cell = some a_law17_Cell := by kernel_rfl
theorem is_reg_Diff : isFn pg n_reg_Diff = some a_reg_Diff := by kernel_rfl
theorem is_reg_Apply : isFn pg n_reg_Apply = some a_reg_Apply := by kernel_rfl
theorem is_reg_Same : isFn pg n_reg_Same = some a_reg_Same := by kernel_rfl
theorem is_grid_Grid_Resize : isFn pg n_grid_Grid_Resize = some a_grid_Grid_Resize := by kernel_rfl
theorem is_grid_Blank : isFn pg n_grid_Blank = some a_grid_Blank := by kernel_rfl
theorem is_term_Term_region : isFn pg n_term_Term_region = some a_term_Term_region := by kernel_rfl
theorem is_term_Term_move : isFn pg n_term_Term_move = some a_term_Term_move := by kernel_rfl
theorem is_term_Term_g : isFn pg n_term_Term_g = some a_term_Term_g := by kernel_rfl
theorem is_grid_Grid_Copy : isFn pg n_grid_Grid_Copy = some a_grid_Grid_Copy := by kernel_rfl
theorem is_ref17_Grid_Has : isFn pg n_ref17_Grid_Has = some a_ref17_Grid_Has := by kernel_rfl
theorem is_ref20_IsCell : isFn pg n_ref20_IsCell = some a_ref20_IsCell := by kernel_rfl
theorem is_grid_fits : isFn pg n_grid_fits = some a_grid_fits := by kernel_rfl
theorem is_grid_line : isFn pg n_grid_line = some a_grid_line := by kernel_rfl
theorem is_grid_Grid_Fill : isFn pg n_grid_Grid_Fill = some a_grid_Grid_Fill := by kernel_rfl
theorem is_echo_Echo_cursor : isFn pg n_echo_Echo_cursor = some a_echo_Echo_cursor := by kernel_rfl
theorem is_utf_Reader_begin : isFn pg n_utf_Reader_begin = some a_utf_Reader_begin := by kernel_rfl
theorem is_ansi_Parser_take : isFn pg n_ansi_Parser_take = some a_ansi_Parser_take := by kernel_rfl
theorem is_term_Term_index : isFn pg n_term_Term_index = some a_term_Term_index := by kernel_rfl
theorem is_grid_Grid_Insert : isFn pg n_grid_Grid_Insert = some a_grid_Grid_Insert := by kernel_rfl
theorem is_term_Term_erased : isFn pg n_term_Term_erased = some a_term_Term_erased := by kernel_rfl
theorem is_grid_Grid_Put : isFn pg n_grid_Grid_Put = some a_grid_Grid_Put := by kernel_rfl
theorem is_term_Term_tab : isFn pg n_term_Term_tab = some a_term_Term_tab := by kernel_rfl
theorem is_term_Term_align : isFn pg n_term_Term_align = some a_term_Term_align := by kernel_rfl
theorem is_term_Term_back : isFn pg n_term_Term_back = some a_term_Term_back := by kernel_rfl
theorem is_term_Term_save : isFn pg n_term_Term_save = some a_term_Term_save := by kernel_rfl
theorem is_term_Term_restore : isFn pg n_term_Term_restore = some a_term_Term_restore := by kernel_rfl
theorem is_term_Term_mode : isFn pg n_term_Term_mode = some a_term_Term_mode := by kernel_rfl
theorem is_term_Term_travel : isFn pg n_term_Term_travel = some a_term_Term_travel := by kernel_rfl
theorem is_term_Term_edit : isFn pg n_term_Term_edit = some a_term_Term_edit := by kernel_rfl
theorem is_term_Term_set : isFn pg n_term_Term_set = some a_term_Term_set := by kernel_rfl
theorem is_osc_Read : isFn pg n_osc_Read = some a_osc_Read := by kernel_rfl
theorem is_slices_Clone_byte_byte : isFn pg n_slices_Clone_byte_byte = some a_slices_Clone_byte_byte := by kernel_rfl
theorem is_vint_Put : isFn pg n_vint_Put = some a_vint_Put := by kernel_rfl
theorem is_vint_Get : isFn pg n_vint_Get = some a_vint_Get := by kernel_rfl
theorem is_view_PutCell : isFn pg n_view_PutCell = some a_view_PutCell := by kernel_rfl
theorem is_view_GetCell : isFn pg n_view_GetCell = some a_view_GetCell := by kernel_rfl
theorem is_slices_Repeat_grid_Cell_grid_Cell : isFn pg n_slices_Repeat_grid_Cell_grid_Cell = some a_slices_Repeat_grid_Cell_grid_Cell := by kernel_rfl
theorem is_bytes_Equal : isFn pg n_bytes_Equal = some a_bytes_Equal := by kernel_rfl
theorem is_slices_Equal_grid_Cell_grid_Cell : isFn pg n_slices_Equal_grid_Cell_grid_Cell = some a_slices_Equal_grid_Cell_grid_Cell := by kernel_rfl
theorem is_grid_Grid_has : isFn pg n_grid_Grid_has = some a_grid_Grid_has := by kernel_rfl
theorem is_slices_IndexFunc_grid_Cell_grid_Cell : isFn pg n_slices_IndexFunc_grid_Cell_grid_Cell = some a_slices_IndexFunc_grid_Cell_grid_Cell := by kernel_rfl
theorem is_utf_Is : isFn pg n_utf_Is = some a_utf_Is := by kernel_rfl
theorem is_style_Right : isFn pg n_style_Right = some a_style_Right := by kernel_rfl
theorem is_law16_As : isFn pg n_law16_As = some a_law16_As := by kernel_rfl
theorem is_patch_Diff : isFn pg n_patch_Diff = some a_patch_Diff := by kernel_rfl
theorem is_reg_Diff_1 : isFn pg n_reg_Diff_1 = some a_reg_Diff_1 := by kernel_rfl
theorem is_reg_State_clipping : isFn pg n_reg_State_clipping = some a_reg_State_clipping := by kernel_rfl
theorem is_vint_PutFields : isFn pg n_vint_PutFields = some a_vint_PutFields := by kernel_rfl
theorem is_vint_Fields : isFn pg n_vint_Fields = some a_vint_Fields := by kernel_rfl
theorem is_vint_Find : isFn pg n_vint_Find = some a_vint_Find := by kernel_rfl
theorem is_patch_Apply : isFn pg n_patch_Apply = some a_patch_Apply := by kernel_rfl
theorem is_grid_Grid_made : isFn pg n_grid_Grid_made = some a_grid_Grid_made := by kernel_rfl
theorem is_ref13_Is : isFn pg n_ref13_Is = some a_ref13_Is := by kernel_rfl
theorem is_ref16_Right : isFn pg n_ref16_Right = some a_ref16_Right := by kernel_rfl
theorem is_ansi_Parser_enter : isFn pg n_ansi_Parser_enter = some a_ansi_Parser_enter := by kernel_rfl
theorem is_ansi_Parser_operating : isFn pg n_ansi_Parser_operating = some a_ansi_Parser_operating := by kernel_rfl
theorem is_ansi_Parser_escaped : isFn pg n_ansi_Parser_escaped = some a_ansi_Parser_escaped := by kernel_rfl
theorem is_ansi_Parser_control : isFn pg n_ansi_Parser_control = some a_ansi_Parser_control := by kernel_rfl
theorem is_grid_Grid_Up : isFn pg n_grid_Grid_Up = some a_grid_Grid_Up := by kernel_rfl
theorem is_grid_Grid_cells : isFn pg n_grid_Grid_cells = some a_grid_Grid_cells := by kernel_rfl
theorem is_grid_Grid_Down : isFn pg n_grid_Grid_Down = some a_grid_Grid_Down := by kernel_rfl
theorem is_term_Term_home : isFn pg n_term_Term_home = some a_term_Term_home := by kernel_rfl
theorem is_term_Term_screen : isFn pg n_term_Term_screen = some a_term_Term_screen := by kernel_rfl
theorem is_term_number : isFn pg n_term_number = some a_term_number := by kernel_rfl
theorem is_term_Term_up : isFn pg n_term_Term_up = some a_term_Term_up := by kernel_rfl
theorem is_term_Term_down : isFn pg n_term_Term_down = some a_term_Term_down := by kernel_rfl
theorem is_term_Term_place : isFn pg n_term_Term_place = some a_term_Term_place := by kernel_rfl
theorem is_term_Term_display : isFn pg n_term_Term_display = some a_term_Term_display := by kernel_rfl
theorem is_term_Term_line : isFn pg n_term_Term_line = some a_term_Term_line := by kernel_rfl
theorem is_term_Term_lines : isFn pg n_term_Term_lines = some a_term_Term_lines := by kernel_rfl
theorem is_grid_Grid_Delete : isFn pg n_grid_Grid_Delete = some a_grid_Grid_Delete := by kernel_rfl
theorem is_style_Change : isFn pg n_style_Change = some a_style_Change := by kernel_rfl
theorem is_slices_Contains_int_int : isFn pg n_slices_Contains_int_int = some a_slices_Contains_int_int := by kernel_rfl
theorem is_strings_HasPrefix : isFn pg n_strings_HasPrefix = some a_strings_HasPrefix := by kernel_rfl
theorem is_osc_Cut : isFn pg n_osc_Cut = some a_osc_Cut := by kernel_rfl
theorem is_osc_clip : isFn pg n_osc_clip = some a_osc_clip := by kernel_rfl
theorem is_vint_Size : isFn pg n_vint_Size = some a_vint_Size := by kernel_rfl
theorem is_vint_class : isFn pg n_vint_class = some a_vint_class := by kernel_rfl
theorem is_style_Write : isFn pg n_style_Write = some a_style_Write := by kernel_rfl
theorem is_style_Read : isFn pg n_style_Read = some a_style_Read := by kernel_rfl
theorem is_math_bits_Mul : isFn pg n_math_bits_Mul = some a_math_bits_Mul := by kernel_rfl
theorem is_style_isColour : isFn pg n_style_isColour = some a_style_isColour := by kernel_rfl
theorem is_ref16_Of : isFn pg n_ref16_Of = some a_ref16_Of := by kernel_rfl
theorem is_patch_base : isFn pg n_patch_base = some a_patch_base := by kernel_rfl
theorem is_patch_numbers : isFn pg n_patch_numbers = some a_patch_numbers := by kernel_rfl
theorem is_slices_IndexFunc_vint_Field_vint_Field : isFn pg n_slices_IndexFunc_vint_Field_vint_Field = some a_slices_IndexFunc_vint_Field_vint_Field := by kernel_rfl
theorem is_vint_Find_1 : isFn pg n_vint_Find_1 = some a_vint_Find_1 := by kernel_rfl
theorem is_patch_runs : isFn pg n_patch_runs = some a_patch_runs := by kernel_rfl
theorem is_ref16_isColour : isFn pg n_ref16_isColour = some a_ref16_isColour := by kernel_rfl
theorem is_ansi_Parser_tell : isFn pg n_ansi_Parser_tell = some a_ansi_Parser_tell := by kernel_rfl
theorem is_ansi_Parser_inter : isFn pg n_ansi_Parser_inter = some a_ansi_Parser_inter := by kernel_rfl
theorem is_ansi_Parser_end : isFn pg n_ansi_Parser_end = some a_ansi_Parser_end := by kernel_rfl
theorem is_ansi_Parser_digit : isFn pg n_ansi_Parser_digit = some a_ansi_Parser_digit := by kernel_rfl
theorem is_ansi_Parser_next : isFn pg n_ansi_Parser_next = some a_ansi_Parser_next := by kernel_rfl
theorem is_grid_Grid_rows : isFn pg n_grid_Grid_rows = some a_grid_Grid_rows := by kernel_rfl
theorem is_style_Style_plain : isFn pg n_style_Style_plain = some a_style_Style_plain := by kernel_rfl
theorem is_style_colour : isFn pg n_style_colour = some a_style_colour := by kernel_rfl
theorem is_slices_Index_int_int : isFn pg n_slices_Index_int_int = some a_slices_Index_int_int := by kernel_rfl
theorem is_stringslite_HasPrefix : isFn pg n_stringslite_HasPrefix = some a_stringslite_HasPrefix := by kernel_rfl
theorem is_osc_follows : isFn pg n_osc_follows = some a_osc_follows := by kernel_rfl
theorem is_strings_IndexByte : isFn pg n_strings_IndexByte = some a_strings_IndexByte := by kernel_rfl
theorem is_base_Read : isFn pg n_base_Read = some a_base_Read := by kernel_rfl
theorem is_vint_tops : isFn pg n_vint_tops = some a_vint_tops := by kernel_rfl
theorem is_math_bits_Mul32 : isFn pg n_math_bits_Mul32 = some a_math_bits_Mul32 := by kernel_rfl
theorem is_math_bits_Mul64 : isFn pg n_math_bits_Mul64 = some a_math_bits_Mul64 := by kernel_rfl
theorem is_style_flag : isFn pg n_style_flag = some a_style_flag := by kernel_rfl
theorem is_stringslite_IndexByte : isFn pg n_stringslite_IndexByte = some a_stringslite_IndexByte := by kernel_rfl
theorem is_base_Fault : isFn pg n_base_Fault = some a_base_Fault := by kernel_rfl
theorem is_base_value : isFn pg n_base_value = some a_base_value := by kernel_rfl
theorem is_base_ends : isFn pg n_base_ends = some a_base_ends := by kernel_rfl
theorem codes0_all : ∀ p ∈ codes0, isFn pg p.1 = some p.2 :=
 (List.forall_mem_cons.mpr ⟨is_law35_EchoTrue,
 (List.forall_mem_cons.mpr ⟨is_law22_RegOf,
 (List.forall_mem_cons.mpr ⟨is_term_New,
 (List.forall_mem_cons.mpr ⟨is_law35_alive,
 (List.forall_mem_cons.mpr ⟨is_echo_New,
 (List.forall_mem_cons.mpr ⟨is_reg_Of,
 (List.forall_mem_cons.mpr ⟨is_echo_Echo_See,
 (List.forall_mem_cons.mpr ⟨is_echo_Echo_Type,
 (List.forall_mem_cons.mpr ⟨is_echo_Echo_Quiet,
 (List.forall_mem_cons.mpr ⟨is_term_Term_Feed,
 (List.forall_mem_cons.mpr ⟨is_echo_Echo_Hits,
 (List.forall_mem_cons.mpr ⟨is_echo_Echo_Misses,
 (List.forall_mem_cons.mpr ⟨is_echo_Echo_Guesses,
 (List.forall_mem_cons.mpr ⟨is_echo_Echo_Show,
 (List.forall_mem_cons.mpr ⟨is_law19_Fits,
 (List.forall_mem_cons.mpr ⟨is_view_Of,
 (List.forall_mem_cons.mpr ⟨is_view_Right,
 (List.forall_mem_cons.mpr ⟨is_law20_As,
 (List.forall_mem_cons.mpr ⟨is_law22_alive,
 (List.forall_mem_cons.mpr ⟨is_term_Term_Resize,
 (List.forall_mem_cons.mpr ⟨is_term_Term_Clip,
 (List.forall_mem_cons.mpr ⟨is_term_Term_Grid,
 (List.forall_mem_cons.mpr ⟨is_term_Term_Cursor,
 (List.forall_mem_cons.mpr ⟨is_reg_Right,
 (List.forall_mem_cons.mpr ⟨is_term_Term_Title,
 (List.forall_mem_cons.mpr ⟨is_term_Term_Bells,
 (List.forall_mem_cons.mpr ⟨is_grid_Grid_Rows,
 (List.forall_mem_cons.mpr ⟨is_ref20_Right,
 (List.forall_mem_cons.mpr ⟨is_utf_New,
 (List.forall_mem_cons.mpr ⟨is_ansi_New,
  (fun _ h => nomatch h)⟩)⟩)⟩)⟩)⟩)⟩)⟩)⟩)⟩)⟩)⟩)⟩)⟩)⟩)⟩)⟩)⟩)⟩)⟩)⟩)⟩)⟩)⟩)⟩)⟩)⟩)⟩)⟩)⟩)⟩)
theorem codes1_all : ∀ p ∈ codes1, isFn pg p.1 = some p.2 :=
 (List.forall_mem_cons.mpr ⟨is_grid_New,
 (List.forall_mem_cons.mpr ⟨is_term_Term_reset,
 (List.forall_mem_cons.mpr ⟨is_reg_First,
 (List.forall_mem_cons.mpr ⟨is_law35_wide,
 (List.forall_mem_cons.mpr ⟨is_echo_Echo_rest,
 (List.forall_mem_cons.mpr ⟨is_echo_Echo_is,
 (List.forall_mem_cons.mpr ⟨is_slices_Clone_grid_Cell_grid_Cell,
 (List.forall_mem_cons.mpr ⟨is_echo_Echo_right,
 (List.forall_mem_cons.mpr ⟨is_echo_Echo_giveUp,
 (List.forall_mem_cons.mpr ⟨is_slices_Clone_echo_Guess_echo_Guess,
 (List.forall_mem_cons.mpr ⟨is_echo_Echo_print,
 (List.forall_mem_cons.mpr ⟨is_echo_Echo_rub,
 (List.forall_mem_cons.mpr ⟨is_term_Term_made,
 (List.forall_mem_cons.mpr ⟨is_utf_Reader_Read,
 (List.forall_mem_cons.mpr ⟨is_ansi_Parser_Feed,
 (List.forall_mem_cons.mpr ⟨is_term_Term_print,
 (List.forall_mem_cons.mpr ⟨is_term_Term_control,
 (List.forall_mem_cons.mpr ⟨is_term_Term_escape,
 (List.forall_mem_cons.mpr ⟨is_term_Term_sequence,
 (List.forall_mem_cons.mpr ⟨is_term_Term_system,
 (List.forall_mem_cons.mpr ⟨is_echo_index,
 (List.forall_mem_cons.mpr ⟨is_view_First,
 (List.forall_mem_cons.mpr ⟨is_view_Same,
 (List.forall_mem_cons.mpr ⟨is_grid_Grid_Cols,
 (List.forall_mem_cons.mpr ⟨is_grid_Grid_Line,
 (List.forall_mem_cons.mpr ⟨is_slices_ContainsFunc_grid_Cell_grid_Cell,
 (List.forall_mem_cons.mpr ⟨is_view_Right_1,
 (List.forall_mem_cons.mpr ⟨is_view_isCell,
 (List.forall_mem_cons.mpr ⟨is_law17_Cell,
 (List.forall_mem_cons.mpr ⟨is_reg_Diff,
  (fun _ h => nomatch h)⟩)⟩)⟩)⟩)⟩)⟩)⟩)⟩)⟩)⟩)⟩)⟩)⟩)⟩)⟩)⟩)⟩)⟩)⟩)⟩)⟩)⟩)⟩)⟩)⟩)⟩)⟩)⟩)⟩)⟩)
theorem codes2_all : ∀ p ∈ codes2, isFn pg p.1 = some p.2 :=
 (List.forall_mem_cons.mpr ⟨is_reg_Apply,
 (List.forall_mem_cons.mpr ⟨is_reg_Same,
 (List.forall_mem_cons.mpr ⟨is_grid_Grid_Resize,
 (List.forall_mem_cons.mpr ⟨is_grid_Blank,
 (List.forall_mem_cons.mpr ⟨is_term_Term_region,
 (List.forall_mem_cons.mpr ⟨is_term_Term_move,
 (List.forall_mem_cons.mpr ⟨is_term_Term_g,
 (List.forall_mem_cons.mpr ⟨is_grid_Grid_Copy,
 (List.forall_mem_cons.mpr ⟨is_ref17_Grid_Has,
 (List.forall_mem_cons.mpr ⟨is_ref20_IsCell,
 (List.forall_mem_cons.mpr ⟨is_grid_fits,
 (List.forall_mem_cons.mpr ⟨is_grid_line,
 (List.forall_mem_cons.mpr ⟨is_grid_Grid_Fill,
 (List.forall_mem_cons.mpr ⟨is_echo_Echo_cursor,
 (List.forall_mem_cons.mpr ⟨is_utf_Reader_begin,
 (List.forall_mem_cons.mpr ⟨is_ansi_Parser_take,
 (List.forall_mem_cons.mpr ⟨is_term_Term_index,
 (List.forall_mem_cons.mpr ⟨is_grid_Grid_Insert,
 (List.forall_mem_cons.mpr ⟨is_term_Term_erased,
 (List.forall_mem_cons.mpr ⟨is_grid_Grid_Put,
 (List.forall_mem_cons.mpr ⟨is_term_Term_tab,
 (List.forall_mem_cons.mpr ⟨is_term_Term_align,
 (List.forall_mem_cons.mpr ⟨is_term_Term_back,
 (List.forall_mem_cons.mpr ⟨is_term_Term_save,
 (List.forall_mem_cons.mpr ⟨is_term_Term_restore,
 (List.forall_mem_cons.mpr ⟨is_term_Term_mode,
 (List.forall_mem_cons.mpr ⟨is_term_Term_travel,
 (List.forall_mem_cons.mpr ⟨is_term_Term_edit,
 (List.forall_mem_cons.mpr ⟨is_term_Term_set,
 (List.forall_mem_cons.mpr ⟨is_osc_Read,
  (fun _ h => nomatch h)⟩)⟩)⟩)⟩)⟩)⟩)⟩)⟩)⟩)⟩)⟩)⟩)⟩)⟩)⟩)⟩)⟩)⟩)⟩)⟩)⟩)⟩)⟩)⟩)⟩)⟩)⟩)⟩)⟩)⟩)
theorem codes3_all : ∀ p ∈ codes3, isFn pg p.1 = some p.2 :=
 (List.forall_mem_cons.mpr ⟨is_slices_Clone_byte_byte,
 (List.forall_mem_cons.mpr ⟨is_vint_Put,
 (List.forall_mem_cons.mpr ⟨is_vint_Get,
 (List.forall_mem_cons.mpr ⟨is_view_PutCell,
 (List.forall_mem_cons.mpr ⟨is_view_GetCell,
 (List.forall_mem_cons.mpr ⟨is_slices_Repeat_grid_Cell_grid_Cell,
 (List.forall_mem_cons.mpr ⟨is_bytes_Equal,
 (List.forall_mem_cons.mpr ⟨is_slices_Equal_grid_Cell_grid_Cell,
 (List.forall_mem_cons.mpr ⟨is_grid_Grid_has,
 (List.forall_mem_cons.mpr ⟨is_slices_IndexFunc_grid_Cell_grid_Cell,
 (List.forall_mem_cons.mpr ⟨is_utf_Is,
 (List.forall_mem_cons.mpr ⟨is_style_Right,
 (List.forall_mem_cons.mpr ⟨is_law16_As,
 (List.forall_mem_cons.mpr ⟨is_patch_Diff,
 (List.forall_mem_cons.mpr ⟨is_reg_Diff_1,
 (List.forall_mem_cons.mpr ⟨is_reg_State_clipping,
 (List.forall_mem_cons.mpr ⟨is_vint_PutFields,
 (List.forall_mem_cons.mpr ⟨is_vint_Fields,
 (List.forall_mem_cons.mpr ⟨is_vint_Find,
 (List.forall_mem_cons.mpr ⟨is_patch_Apply,
 (List.forall_mem_cons.mpr ⟨is_grid_Grid_made,
 (List.forall_mem_cons.mpr ⟨is_ref13_Is,
 (List.forall_mem_cons.mpr ⟨is_ref16_Right,
 (List.forall_mem_cons.mpr ⟨is_ansi_Parser_enter,
 (List.forall_mem_cons.mpr ⟨is_ansi_Parser_operating,
 (List.forall_mem_cons.mpr ⟨is_ansi_Parser_escaped,
 (List.forall_mem_cons.mpr ⟨is_ansi_Parser_control,
 (List.forall_mem_cons.mpr ⟨is_grid_Grid_Up,
 (List.forall_mem_cons.mpr ⟨is_grid_Grid_cells,
 (List.forall_mem_cons.mpr ⟨is_grid_Grid_Down,
  (fun _ h => nomatch h)⟩)⟩)⟩)⟩)⟩)⟩)⟩)⟩)⟩)⟩)⟩)⟩)⟩)⟩)⟩)⟩)⟩)⟩)⟩)⟩)⟩)⟩)⟩)⟩)⟩)⟩)⟩)⟩)⟩)⟩)
theorem codes4_all : ∀ p ∈ codes4, isFn pg p.1 = some p.2 :=
 (List.forall_mem_cons.mpr ⟨is_term_Term_home,
 (List.forall_mem_cons.mpr ⟨is_term_Term_screen,
 (List.forall_mem_cons.mpr ⟨is_term_number,
 (List.forall_mem_cons.mpr ⟨is_term_Term_up,
 (List.forall_mem_cons.mpr ⟨is_term_Term_down,
 (List.forall_mem_cons.mpr ⟨is_term_Term_place,
 (List.forall_mem_cons.mpr ⟨is_term_Term_display,
 (List.forall_mem_cons.mpr ⟨is_term_Term_line,
 (List.forall_mem_cons.mpr ⟨is_term_Term_lines,
 (List.forall_mem_cons.mpr ⟨is_grid_Grid_Delete,
 (List.forall_mem_cons.mpr ⟨is_style_Change,
 (List.forall_mem_cons.mpr ⟨is_slices_Contains_int_int,
 (List.forall_mem_cons.mpr ⟨is_strings_HasPrefix,
 (List.forall_mem_cons.mpr ⟨is_osc_Cut,
 (List.forall_mem_cons.mpr ⟨is_osc_clip,
 (List.forall_mem_cons.mpr ⟨is_vint_Size,
 (List.forall_mem_cons.mpr ⟨is_vint_class,
 (List.forall_mem_cons.mpr ⟨is_style_Write,
 (List.forall_mem_cons.mpr ⟨is_style_Read,
 (List.forall_mem_cons.mpr ⟨is_math_bits_Mul,
 (List.forall_mem_cons.mpr ⟨is_style_isColour,
 (List.forall_mem_cons.mpr ⟨is_ref16_Of,
 (List.forall_mem_cons.mpr ⟨is_patch_base,
 (List.forall_mem_cons.mpr ⟨is_patch_numbers,
 (List.forall_mem_cons.mpr ⟨is_slices_IndexFunc_vint_Field_vint_Field,
 (List.forall_mem_cons.mpr ⟨is_vint_Find_1,
 (List.forall_mem_cons.mpr ⟨is_patch_runs,
 (List.forall_mem_cons.mpr ⟨is_ref16_isColour,
 (List.forall_mem_cons.mpr ⟨is_ansi_Parser_tell,
 (List.forall_mem_cons.mpr ⟨is_ansi_Parser_inter,
  (fun _ h => nomatch h)⟩)⟩)⟩)⟩)⟩)⟩)⟩)⟩)⟩)⟩)⟩)⟩)⟩)⟩)⟩)⟩)⟩)⟩)⟩)⟩)⟩)⟩)⟩)⟩)⟩)⟩)⟩)⟩)⟩)⟩)
theorem codes5_all : ∀ p ∈ codes5, isFn pg p.1 = some p.2 :=
 (List.forall_mem_cons.mpr ⟨is_ansi_Parser_end,
 (List.forall_mem_cons.mpr ⟨is_ansi_Parser_digit,
 (List.forall_mem_cons.mpr ⟨is_ansi_Parser_next,
 (List.forall_mem_cons.mpr ⟨is_grid_Grid_rows,
 (List.forall_mem_cons.mpr ⟨is_style_Style_plain,
 (List.forall_mem_cons.mpr ⟨is_style_colour,
 (List.forall_mem_cons.mpr ⟨is_slices_Index_int_int,
 (List.forall_mem_cons.mpr ⟨is_stringslite_HasPrefix,
 (List.forall_mem_cons.mpr ⟨is_osc_follows,
 (List.forall_mem_cons.mpr ⟨is_strings_IndexByte,
 (List.forall_mem_cons.mpr ⟨is_base_Read,
 (List.forall_mem_cons.mpr ⟨is_vint_tops,
 (List.forall_mem_cons.mpr ⟨is_math_bits_Mul32,
 (List.forall_mem_cons.mpr ⟨is_math_bits_Mul64,
 (List.forall_mem_cons.mpr ⟨is_style_flag,
 (List.forall_mem_cons.mpr ⟨is_stringslite_IndexByte,
 (List.forall_mem_cons.mpr ⟨is_base_Fault,
 (List.forall_mem_cons.mpr ⟨is_base_value,
 (List.forall_mem_cons.mpr ⟨is_base_ends,
  (fun _ h => nomatch h)⟩)⟩)⟩)⟩)⟩)⟩)⟩)⟩)⟩)⟩)⟩)⟩)⟩)⟩)⟩)⟩)⟩)⟩)⟩)
theorem codes_all : ∀ p ∈ codesL, isFn pg p.1 = some p.2 :=
 List.forall_mem_append.mpr ⟨codes0_all,
 List.forall_mem_append.mpr ⟨codes1_all,
 List.forall_mem_append.mpr ⟨codes2_all,
 List.forall_mem_append.mpr ⟨codes3_all,
 List.forall_mem_append.mpr ⟨codes4_all, codes5_all⟩⟩⟩⟩⟩
theorem lookN_ok {P : Program} {f : Nat} {a : AFn} : ∀ (l : List (Nat × AFn)), (∀ p ∈ l, isFn P p.1 = some p.2) → lookN f l = some a → isFn P f = some a
  | [], _, h => by cases h
  | p :: l, hp, h => by
    simp only [lookN] at h
    cases hb : Nat.beq p.1 f with
    | true => rw [hb] at h; cases h; rw [← Nat.eq_of_beq_eq_true hb]; exact hp p (List.mem_cons_self ..)
    | false => rw [hb] at h; exact lookN_ok l (fun q hq => hp q (List.mem_cons_of_mem _ hq)) h
theorem codes_ok (f : Nat) (a : AFn) (h : codes f = some a) : isFn pg f = some a := lookN_ok codesL codes_all h

end Go.AM
