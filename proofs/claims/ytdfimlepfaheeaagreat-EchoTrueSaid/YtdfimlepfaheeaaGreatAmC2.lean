/- AmC2: small codes of functions, printed by a program. -/
import Derived.Test.YtdfimlepfaheeaaGreatAmC1
set_option linter.unusedVariables false
namespace Go.AM
/-- (*term.Term).edit -/
def a_term_Term_edit : AFn := ⟨116,
 (.seq
  (.ops [
    ⟨some 3, none, .box t_ansi_Event (.tmp 1)⟩,
    ⟨some 4, none, .mv (.const (.bool false))⟩])
  (.seq
   (.ops [
     ⟨some 6, none, .loadN 7 (.tmp 3)⟩,
     ⟨some 7, none, .call n_term_number [(.tmp 6), (.const (.int .i64 0)), (.const (.int .i64 1))]⟩,
     ⟨some 5, none, .mv (.tmp 7)⟩])
   (.seq
    (.seq
     (.ops [
       ⟨some 8, none, .fld 4 (.tmp 3)⟩,
       ⟨some 9, none, .load1 (.tmp 8)⟩])
     (.block 0
      (.seq
       (.ops [
         ⟨some 11, none, .bin .eql t_uint8 (.tmp 9) (.const (.int .u8 74))⟩,
         ⟨some 10, none, .mv (.tmp 11)⟩])
       (.cond (.tmp 10)
        (.ops [
          ⟨some 12, none, .mv (.tmp 0)⟩,
          ⟨some 13, none, .loadN 7 (.tmp 3)⟩,
          ⟨some 14, none, .call n_term_number [(.tmp 13), (.const (.int .i64 0)), (.const (.int .i64 0))]⟩,
          ⟨some 15, none, .call n_term_Term_display [(.tmp 12), (.tmp 14)]⟩])
        (.seq
         (.ops [
           ⟨some 17, none, .bin .eql t_uint8 (.tmp 9) (.const (.int .u8 75))⟩,
           ⟨some 16, none, .mv (.tmp 17)⟩])
         (.cond (.tmp 16)
          (.ops [
            ⟨some 18, none, .mv (.tmp 0)⟩,
            ⟨some 19, none, .loadN 7 (.tmp 3)⟩,
            ⟨some 20, none, .call n_term_number [(.tmp 19), (.const (.int .i64 0)), (.const (.int .i64 0))]⟩,
            ⟨some 21, none, .call n_term_Term_line [(.tmp 18), (.tmp 20)]⟩])
          (.seq
           (.seq
            (.ops [
              ⟨some 23, none, .bin .eql t_uint8 (.tmp 9) (.const (.int .u8 76))⟩,
              ⟨some 22, none, .mv (.tmp 23)⟩])
            (.cond (.tmp 22)
             (.skip)
             (.ops [
               ⟨some 24, none, .bin .eql t_uint8 (.tmp 9) (.const (.int .u8 77))⟩,
               ⟨some 22, none, .mv (.tmp 24)⟩])))
           (.cond (.tmp 22)
            (.ops [
              ⟨some 25, none, .mv (.tmp 0)⟩,
              ⟨some 26, none, .mv (.tmp 5)⟩,
              ⟨some 27, none, .fld 4 (.tmp 3)⟩,
              ⟨some 28, none, .load1 (.tmp 27)⟩,
              ⟨some 29, none, .bin .eql t_uint8 (.tmp 28) (.const (.int .u8 76))⟩,
              ⟨some 30, none, .call n_term_Term_lines [(.tmp 25), (.tmp 26), (.tmp 29)]⟩])
            (.seq
             (.ops [
               ⟨some 32, none, .bin .eql t_uint8 (.tmp 9) (.const (.int .u8 64))⟩,
               ⟨some 31, none, .mv (.tmp 32)⟩])
             (.cond (.tmp 31)
              (.plan [
                (⟨some 33, none, .mv (.tmp 0)⟩, []),
                (⟨some 35, none, .mv (.tmp 0)⟩, []),
                (⟨some 36, none, .nil (.tmp 35)⟩, []),
                (⟨some 37, none, .fld 5 (.tmp 36)⟩, []),
                (⟨some 38, none, .load1 (.tmp 37)⟩, []),
                (⟨some 39, none, .mv (.tmp 0)⟩, []),
                (⟨some 40, none, .nil (.tmp 39)⟩, []),
                (⟨some 41, none, .fld 6 (.tmp 40)⟩, []),
                (⟨some 42, none, .load1 (.tmp 41)⟩, []),
                (⟨some 43, none, .mv (.tmp 5)⟩, []),
                (⟨some 44, none, .mv (.tmp 0)⟩, []),
                (⟨some 34, none, .call n_term_Term_g [(.tmp 33)]⟩, [⟨some 38, none, .load1 (.tmp 37)⟩, ⟨some 42, none, .load1 (.tmp 41)⟩]),
                (⟨some 45, none, .call n_term_Term_erased [(.tmp 44)]⟩, [⟨some 38, none, .load1 (.tmp 37)⟩, ⟨some 42, none, .load1 (.tmp 41)⟩]),
                (⟨some 46, none, .call n_grid_Grid_Insert [(.tmp 34), (.tmp 38), (.tmp 42), (.tmp 43), (.tmp 45)]⟩, [])])
              (.seq
               (.ops [
                 ⟨some 48, none, .bin .eql t_uint8 (.tmp 9) (.const (.int .u8 80))⟩,
                 ⟨some 47, none, .mv (.tmp 48)⟩])
               (.cond (.tmp 47)
                (.plan [
                  (⟨some 49, none, .mv (.tmp 0)⟩, []),
                  (⟨some 51, none, .mv (.tmp 0)⟩, []),
                  (⟨some 52, none, .nil (.tmp 51)⟩, []),
                  (⟨some 53, none, .fld 5 (.tmp 52)⟩, []),
                  (⟨some 54, none, .load1 (.tmp 53)⟩, []),
                  (⟨some 55, none, .mv (.tmp 0)⟩, []),
                  (⟨some 56, none, .nil (.tmp 55)⟩, []),
                  (⟨some 57, none, .fld 6 (.tmp 56)⟩, []),
                  (⟨some 58, none, .load1 (.tmp 57)⟩, []),
                  (⟨some 59, none, .mv (.tmp 5)⟩, []),
                  (⟨some 60, none, .mv (.tmp 0)⟩, []),
                  (⟨some 50, none, .call n_term_Term_g [(.tmp 49)]⟩, [⟨some 54, none, .load1 (.tmp 53)⟩, ⟨some 58, none, .load1 (.tmp 57)⟩]),
                  (⟨some 61, none, .call n_term_Term_erased [(.tmp 60)]⟩, [⟨some 54, none, .load1 (.tmp 53)⟩, ⟨some 58, none, .load1 (.tmp 57)⟩]),
                  (⟨some 62, none, .call n_grid_Grid_Delete [(.tmp 50), (.tmp 54), (.tmp 58), (.tmp 59), (.tmp 61)]⟩, [])])
                (.seq
                 (.ops [
                   ⟨some 64, none, .bin .eql t_uint8 (.tmp 9) (.const (.int .u8 88))⟩,
                   ⟨some 63, none, .mv (.tmp 64)⟩])
                 (.cond (.tmp 63)
                  (.plan [
                    (⟨some 65, none, .mv (.tmp 0)⟩, []),
                    (⟨some 67, none, .mv (.tmp 0)⟩, []),
                    (⟨some 68, none, .nil (.tmp 67)⟩, []),
                    (⟨some 69, none, .fld 5 (.tmp 68)⟩, []),
                    (⟨some 70, none, .load1 (.tmp 69)⟩, []),
                    (⟨some 71, none, .mv (.tmp 0)⟩, []),
                    (⟨some 72, none, .nil (.tmp 71)⟩, []),
                    (⟨some 73, none, .fld 6 (.tmp 72)⟩, []),
                    (⟨some 74, none, .load1 (.tmp 73)⟩, []),
                    (⟨some 75, none, .mv (.tmp 0)⟩, []),
                    (⟨some 76, none, .nil (.tmp 75)⟩, []),
                    (⟨some 77, none, .fld 6 (.tmp 76)⟩, []),
                    (⟨some 78, none, .load1 (.tmp 77)⟩, []),
                    (⟨some 79, none, .mv (.tmp 5)⟩, []),
                    (⟨some 80, none, .bin .add t_int (.tmp 78) (.tmp 79)⟩, []),
                    (⟨some 81, none, .mv (.tmp 0)⟩, []),
                    (⟨some 66, none, .call n_term_Term_g [(.tmp 65)]⟩, [⟨some 70, none, .load1 (.tmp 69)⟩, ⟨some 74, none, .load1 (.tmp 73)⟩, ⟨some 78, none, .load1 (.tmp 77)⟩]),
                    (⟨some 82, none, .call n_term_Term_erased [(.tmp 81)]⟩, [⟨some 70, none, .load1 (.tmp 69)⟩, ⟨some 74, none, .load1 (.tmp 73)⟩, ⟨some 78, none, .load1 (.tmp 77)⟩]),
                    (⟨some 83, none, .call n_grid_Grid_Fill [(.tmp 66), (.tmp 70), (.tmp 74), (.tmp 80), (.tmp 82)]⟩, [])])
                  (.seq
                   (.ops [
                     ⟨some 85, none, .bin .eql t_uint8 (.tmp 9) (.const (.int .u8 83))⟩,
                     ⟨some 84, none, .mv (.tmp 85)⟩])
                   (.cond (.tmp 84)
                    (.plan [
                      (⟨some 86, none, .mv (.tmp 0)⟩, []),
                      (⟨some 88, none, .mv (.tmp 0)⟩, []),
                      (⟨some 89, none, .nil (.tmp 88)⟩, []),
                      (⟨some 90, none, .fld 11 (.tmp 89)⟩, []),
                      (⟨some 91, none, .load1 (.tmp 90)⟩, []),
                      (⟨some 92, none, .mv (.tmp 0)⟩, []),
                      (⟨some 93, none, .nil (.tmp 92)⟩, []),
                      (⟨some 94, none, .fld 12 (.tmp 93)⟩, []),
                      (⟨some 95, none, .load1 (.tmp 94)⟩, []),
                      (⟨some 96, none, .mv (.tmp 5)⟩, []),
                      (⟨some 97, none, .mv (.tmp 0)⟩, []),
                      (⟨some 87, none, .call n_term_Term_g [(.tmp 86)]⟩, [⟨some 91, none, .load1 (.tmp 90)⟩, ⟨some 95, none, .load1 (.tmp 94)⟩]),
                      (⟨some 98, none, .call n_term_Term_erased [(.tmp 97)]⟩, [⟨some 91, none, .load1 (.tmp 90)⟩, ⟨some 95, none, .load1 (.tmp 94)⟩]),
                      (⟨some 99, none, .call n_grid_Grid_Up [(.tmp 87), (.tmp 91), (.tmp 95), (.tmp 96), (.tmp 98)]⟩, [])])
                    (.seq
                     (.ops [
                       ⟨some 101, none, .bin .eql t_uint8 (.tmp 9) (.const (.int .u8 84))⟩,
                       ⟨some 100, none, .mv (.tmp 101)⟩])
                     (.cond (.tmp 100)
                      (.plan [
                        (⟨some 102, none, .mv (.tmp 0)⟩, []),
                        (⟨some 104, none, .mv (.tmp 0)⟩, []),
                        (⟨some 105, none, .nil (.tmp 104)⟩, []),
                        (⟨some 106, none, .fld 11 (.tmp 105)⟩, []),
                        (⟨some 107, none, .load1 (.tmp 106)⟩, []),
                        (⟨some 108, none, .mv (.tmp 0)⟩, []),
                        (⟨some 109, none, .nil (.tmp 108)⟩, []),
                        (⟨some 110, none, .fld 12 (.tmp 109)⟩, []),
                        (⟨some 111, none, .load1 (.tmp 110)⟩, []),
                        (⟨some 112, none, .mv (.tmp 5)⟩, []),
                        (⟨some 113, none, .mv (.tmp 0)⟩, []),
                        (⟨some 103, none, .call n_term_Term_g [(.tmp 102)]⟩, [⟨some 107, none, .load1 (.tmp 106)⟩, ⟨some 111, none, .load1 (.tmp 110)⟩]),
                        (⟨some 114, none, .call n_term_Term_erased [(.tmp 113)]⟩, [⟨some 107, none, .load1 (.tmp 106)⟩, ⟨some 111, none, .load1 (.tmp 110)⟩]),
                        (⟨some 115, none, .call n_grid_Grid_Down [(.tmp 103), (.tmp 107), (.tmp 111), (.tmp 112), (.tmp 114)]⟩, [])])
                      (.seq
                       (.ops [
                         ⟨some 4, none, .mv (.const (.bool false))⟩])
                       (.ret))))))))))))))))))))
    (.seq
     (.ops [
       ⟨some 4, none, .mv (.const (.bool true))⟩])
     (.ret))))),
 [.tmp 4]⟩

/-- (*term.Term).set -/
def a_term_Term_set : AFn := ⟨80,
 (.seq
  (.ops [
    ⟨some 3, none, .box t_ansi_Event (.tmp 1)⟩])
  (.seq
   (.ops [
     ⟨some 6, none, .fld 4 (.tmp 3)⟩,
     ⟨some 7, none, .load1 (.tmp 6)⟩])
   (.block 0
    (.seq
     (.ops [
       ⟨some 9, none, .bin .eql t_uint8 (.tmp 7) (.const (.int .u8 109))⟩,
       ⟨some 8, none, .mv (.tmp 9)⟩])
     (.cond (.tmp 8)
      (.plan [
        (⟨some 10, none, .mv (.tmp 0)⟩, []),
        (⟨some 11, none, .mv (.tmp 0)⟩, []),
        (⟨some 12, none, .nil (.tmp 11)⟩, []),
        (⟨some 13, none, .fld 8 (.tmp 12)⟩, []),
        (⟨some 14, none, .loadN 3 (.tmp 13)⟩, []),
        (⟨some 15, none, .fld 5 (.tmp 3)⟩, []),
        (⟨some 16, none, .load1 (.tmp 15)⟩, []),
        (⟨some 17, none, .call n_style_Change [(.tmp 14), (.tmp 16)]⟩, []),
        (⟨some 18, none, .nil (.tmp 10)⟩, []),
        (⟨some 19, none, .fld 8 (.tmp 18)⟩, []),
        (⟨none, none, .store 3 (.tmp 19) (.tmp 17)⟩, [])])
      (.seq
       (.ops [
         ⟨some 21, none, .bin .eql t_uint8 (.tmp 7) (.const (.int .u8 103))⟩,
         ⟨some 20, none, .mv (.tmp 21)⟩])
       (.cond (.tmp 20)
        (.seq
         (.ops [
           ⟨some 22, none, .loadN 7 (.tmp 3)⟩,
           ⟨some 23, none, .call n_term_number [(.tmp 22), (.const (.int .i64 0)), (.const (.int .i64 0))]⟩])
         (.block 1
          (.seq
           (.ops [
             ⟨some 25, none, .bin .eql t_int (.tmp 23) (.const (.int .i64 0))⟩,
             ⟨some 24, none, .mv (.tmp 25)⟩])
           (.cond (.tmp 24)
            (.plan [
              (⟨some 26, none, .mv (.tmp 0)⟩, []),
              (⟨some 27, none, .mv (.tmp 0)⟩, []),
              (⟨some 28, none, .nil (.tmp 27)⟩, []),
              (⟨some 29, none, .fld 6 (.tmp 28)⟩, []),
              (⟨some 30, none, .load1 (.tmp 29)⟩, []),
              (⟨some 31, none, .nil (.tmp 26)⟩, []),
              (⟨some 32, none, .fld 17 (.tmp 31)⟩, []),
              (⟨some 33, none, .idxA 40 1 (.tmp 32) (.tmp 30)⟩, []),
              (⟨none, none, .store 1 (.tmp 33) (.const (.bool false))⟩, [])])
            (.seq
             (.ops [
               ⟨some 35, none, .bin .eql t_int (.tmp 23) (.const (.int .i64 3))⟩,
               ⟨some 34, none, .mv (.tmp 35)⟩])
             (.cond (.tmp 34)
              (.ops [
                ⟨some 36, none, .mv (.tmp 0)⟩,
                ⟨some 37, none, .gen (.build t_40_bool #[]) t_40_bool⟩,
                ⟨some 38, none, .nil (.tmp 36)⟩,
                ⟨some 39, none, .fld 17 (.tmp 38)⟩,
                ⟨none, none, .store 40 (.tmp 39) (.tmp 37)⟩])
              (.skip)))))))
        (.seq
         (.seq
          (.ops [
            ⟨some 41, none, .bin .eql t_uint8 (.tmp 7) (.const (.int .u8 104))⟩,
            ⟨some 40, none, .mv (.tmp 41)⟩])
          (.cond (.tmp 40)
           (.skip)
           (.ops [
             ⟨some 42, none, .bin .eql t_uint8 (.tmp 7) (.const (.int .u8 108))⟩,
             ⟨some 40, none, .mv (.tmp 42)⟩])))
         (.cond (.tmp 40)
          (.seq
           (.ops [
             ⟨some 43, none, .fld 5 (.tmp 3)⟩,
             ⟨some 44, none, .load1 (.tmp 43)⟩,
             ⟨some 45, none, .call n_slices_Contains_int_int [(.tmp 44), (.const (.int .i64 4))]⟩])
           (.cond (.tmp 45)
            (.ops [
              ⟨some 46, none, .mv (.tmp 0)⟩,
              ⟨some 47, none, .fld 4 (.tmp 3)⟩,
              ⟨some 48, none, .load1 (.tmp 47)⟩,
              ⟨some 49, none, .bin .eql t_uint8 (.tmp 48) (.const (.int .u8 104))⟩,
              ⟨some 50, none, .nil (.tmp 46)⟩,
              ⟨some 51, none, .fld 13 (.tmp 50)⟩,
              ⟨some 52, none, .fld 1 (.tmp 51)⟩,
              ⟨none, none, .store 1 (.tmp 52) (.tmp 49)⟩])
            (.skip)))
          (.seq
           (.ops [
             ⟨some 54, none, .bin .eql t_uint8 (.tmp 7) (.const (.int .u8 114))⟩,
             ⟨some 53, none, .mv (.tmp 54)⟩])
           (.cond (.tmp 53)
            (.seq
             (.plan [
               (⟨some 55, none, .loadN 7 (.tmp 3)⟩, []),
               (⟨some 58, none, .loadN 7 (.tmp 3)⟩, []),
               (⟨some 59, none, .mv (.tmp 0)⟩, []),
               (⟨some 56, none, .call n_term_number [(.tmp 55), (.const (.int .i64 0)), (.const (.int .i64 1))]⟩, [⟨some 58, none, .loadN 7 (.tmp 3)⟩]),
               (⟨some 57, none, .bin .sub t_int (.tmp 56) (.const (.int .i64 1))⟩, []),
               (⟨some 60, none, .call n_term_Term_g [(.tmp 59)]⟩, [⟨some 58, none, .loadN 7 (.tmp 3)⟩]),
               (⟨some 61, none, .call n_grid_Grid_Rows [(.tmp 60)]⟩, [⟨some 58, none, .loadN 7 (.tmp 3)⟩]),
               (⟨some 62, none, .call n_term_number [(.tmp 58), (.const (.int .i64 1)), (.tmp 61)]⟩, []),
               (⟨some 63, none, .bin .sub t_int (.tmp 62) (.const (.int .i64 1))⟩, []),
               (⟨some 4, none, .mv (.tmp 57)⟩, []),
               (⟨some 5, none, .mv (.tmp 63)⟩, [])])
             (.seq
              (.ops [
                ⟨some 64, none, .mv (.tmp 4)⟩,
                ⟨some 65, none, .mv (.tmp 5)⟩,
                ⟨some 66, none, .bin .lss t_int (.tmp 64) (.tmp 65)⟩,
                ⟨some 67, none, .mv (.tmp 66)⟩,
                ⟨some 68, some (67, true), .mv (.tmp 5)⟩,
                ⟨some 69, some (67, true), .mv (.tmp 0)⟩,
                ⟨some 70, some (67, true), .call n_term_Term_g [(.tmp 69)]⟩,
                ⟨some 71, some (67, true), .call n_grid_Grid_Rows [(.tmp 70)]⟩,
                ⟨some 72, some (67, true), .bin .lss t_int (.tmp 68) (.tmp 71)⟩,
                ⟨some 73, none, .pick (.tmp 67) (.tmp 72) (.const (.bool false))⟩])
              (.cond (.tmp 73)
               (.seq
                (.ops [
                  ⟨some 74, none, .mv (.tmp 0)⟩,
                  ⟨some 75, none, .mv (.tmp 4)⟩,
                  ⟨some 76, none, .mv (.tmp 5)⟩,
                  ⟨some 77, none, .call n_term_Term_region [(.tmp 74), (.tmp 75), (.tmp 76)]⟩])
                (.ops [
                  ⟨some 78, none, .mv (.tmp 0)⟩,
                  ⟨some 79, none, .call n_term_Term_home [(.tmp 78)]⟩]))
               (.skip))))
            (.skip)))))))))))),
 []⟩

/-- osc.Read -/
def a_osc_Read : AFn := ⟨24,
 (.seq
  (.ops [
    ⟨some 2, none, .new t_osc_Ask [(.int .i64 0), (.string .empty)]⟩,
    ⟨some 3, none, .mv (.const (.int .i64 0))⟩])
  (.seq
   (.block 0
    (.seq
     (.ops [
       ⟨some 5, none, .mv (.tmp 0)⟩,
       ⟨some 6, none, .call n_strings_HasPrefix [(.tmp 5), (.const (.string ⟨#[48, 59]⟩))]⟩,
       ⟨some 7, none, .mv (.tmp 6)⟩,
       ⟨some 8, some (7, false), .mv (.tmp 0)⟩,
       ⟨some 9, some (7, false), .call n_strings_HasPrefix [(.tmp 8), (.const (.string ⟨#[50, 59]⟩))]⟩,
       ⟨some 10, none, .pick (.tmp 7) (.const (.bool true)) (.tmp 9)⟩,
       ⟨some 4, none, .mv (.tmp 10)⟩])
     (.cond (.tmp 4)
      (.seq
       (.ops [
         ⟨some 11, none, .mv (.tmp 0)⟩,
         ⟨some 12, none, .gen (.slice t_string (.tmp 11) (some (.const (.int .i64 2))) none none) t_string⟩,
         ⟨some 13, none, .call n_osc_Cut [(.tmp 12), (.const (.int .i64 64))]⟩,
         ⟨some 14, none, .gen (.build t_osc_Ask #[(0, (.const (.int .i64 1))), (1, (.tmp 13))]) t_osc_Ask⟩,
         ⟨none, none, .store 2 (.tmp 2) (.tmp 14)⟩,
         ⟨some 3, none, .mv (.const (.int .i64 0))⟩])
       (.ret))
      (.seq
       (.ops [
         ⟨some 16, none, .mv (.tmp 0)⟩,
         ⟨some 17, none, .call n_strings_HasPrefix [(.tmp 16), (.const (.string ⟨#[53, 50, 59]⟩))]⟩,
         ⟨some 15, none, .mv (.tmp 17)⟩])
       (.cond (.tmp 15)
        (.seq
         (.ops [
           ⟨some 18, none, .mv (.tmp 0)⟩,
           ⟨some 19, none, .gen (.slice t_string (.tmp 18) (some (.const (.int .i64 3))) none none) t_string⟩,
           ⟨some 20, none, .call n_osc_clip [(.tmp 19)]⟩,
           ⟨some 21, none, .ext (.tmp 20) 0⟩,
           ⟨some 22, none, .ext (.tmp 20) 1⟩,
           ⟨none, none, .store 2 (.tmp 2) (.tmp 21)⟩,
           ⟨some 3, none, .mv (.tmp 22)⟩])
         (.ret))
        (.skip))))))
   (.seq
    (.ops [
      ⟨some 23, none, .gen (.build t_osc_Ask #[]) t_osc_Ask⟩,
      ⟨none, none, .store 2 (.tmp 2) (.tmp 23)⟩,
      ⟨some 3, none, .mv (.const (.int .i64 4))⟩])
    (.ret)))),
 [.cell 2 t_osc_Ask, .tmp 3]⟩

/-- slices.Clone[[]byte,byte] -/
def a_slices_Clone_byte_byte : AFn := ⟨8,
 (.seq
  (.ops [
    ⟨some 2, none, .mv (.const (.slice none 0 0))⟩])
  (.seq
   (.seq
    (.ops [
      ⟨some 3, none, .mv (.tmp 0)⟩,
      ⟨some 4, none, .bin .eql t_S_uint8 (.tmp 3) (.const (.slice none 0 0))⟩])
    (.cond (.tmp 4)
     (.seq
      (.ops [
        ⟨some 2, none, .mv (.const (.slice none 0 0))⟩])
      (.ret))
     (.skip)))
   (.seq
    (.ops [
      ⟨some 5, none, .gen (.buildSlice t_S_uint8 0 #[]) t_S_uint8⟩,
      ⟨some 6, none, .mv (.tmp 0)⟩,
      ⟨some 7, none, .gen (.call ⟨.builtin .append, #[(.tmp 5), (.tmp 6)], #[t_S_uint8, t_S_uint8]⟩) t_S_uint8⟩,
      ⟨some 2, none, .mv (.tmp 7)⟩])
    (.ret)))),
 [.tmp 2]⟩

/-- vint.Put -/
def a_vint_Put : AFn := ⟨38,
 (.seq
  (.ops [
    ⟨some 2, none, .mv (.const (.slice none 0 0))⟩,
    ⟨some 3, none, .mv (.const (.int .i64 0))⟩])
  (.seq
   (.ops [
     ⟨some 8, none, .mv (.tmp 0)⟩,
     ⟨some 9, none, .call n_vint_Size [(.tmp 8)]⟩,
     ⟨some 4, none, .mv (.tmp 9)⟩])
   (.seq
    (.seq
     (.ops [
       ⟨some 10, none, .mv (.tmp 4)⟩,
       ⟨some 11, none, .bin .eql t_int (.tmp 10) (.const (.int .i64 0))⟩])
     (.cond (.tmp 11)
      (.seq
       (.ops [
         ⟨some 2, none, .mv (.const (.slice none 0 0))⟩,
         ⟨some 3, none, .mv (.const (.int .i64 11))⟩])
       (.ret))
      (.skip)))
    (.seq
     (.ops [
       ⟨some 12, none, .mv (.tmp 4)⟩,
       ⟨some 13, none, .gen (.makeSlice t_S_uint8 (.tmp 12) (.tmp 12)) t_S_uint8⟩,
       ⟨some 5, none, .mv (.tmp 13)⟩])
     (.seq
      (.ops [
        ⟨some 14, none, .mv (.tmp 0)⟩,
        ⟨some 6, none, .mv (.tmp 14)⟩])
      (.seq
       (.seq
        (.ops [
          ⟨some 15, none, .mv (.tmp 4)⟩,
          ⟨some 16, none, .bin .sub t_int (.tmp 15) (.const (.int .i64 1))⟩,
          ⟨some 7, none, .mv (.tmp 16)⟩])
        (.block 0
         (.loop
          (.seq
           (.seq
            (.ops [
              ⟨some 17, none, .mv (.tmp 7)⟩,
              ⟨some 18, none, .bin .geq t_int (.tmp 17) (.const (.int .i64 0))⟩])
            (.cond (.tmp 18)
             (.skip)
             (.exit 0)))
           (.seq
            (.block 1
             (.seq
              (.ops [
                ⟨some 21, none, .mv (.tmp 5)⟩,
                ⟨some 22, none, .mv (.tmp 7)⟩,
                ⟨some 23, none, .mv (.tmp 6)⟩,
                ⟨some 24, none, .gen (.convert t_uint64 t_uint8 (.tmp 23)) t_uint8⟩,
                ⟨some 25, none, .idxS 1 (.tmp 21) (.tmp 22)⟩,
                ⟨none, none, .store 1 (.tmp 25) (.tmp 24)⟩])
              (.ops [
                ⟨some 26, none, .mv (.tmp 6)⟩,
                ⟨some 27, none, .gen (.binOp .shr t_uint64 (.tmp 26) (.const (.int .u64 8)) t_uint) t_uint64⟩,
                ⟨some 6, none, .mv (.tmp 27)⟩])))
            (.ops [
              ⟨some 19, none, .mv (.tmp 7)⟩,
              ⟨some 20, none, .bin .sub t_int (.tmp 19) (.const (.int .i64 1))⟩,
              ⟨some 7, none, .mv (.tmp 20)⟩]))))))
       (.seq
        (.plan [
          (⟨some 28, none, .mv (.tmp 5)⟩, []),
          (⟨some 29, none, .idxS 1 (.tmp 28) (.const (.int .i64 0))⟩, []),
          (⟨some 30, none, .load1 (.tmp 29)⟩, []),
          (⟨some 31, none, .mv (.tmp 0)⟩, []),
          (⟨some 32, none, .call n_vint_class [(.tmp 31)]⟩, [⟨some 30, none, .load1 (.tmp 29)⟩]),
          (⟨some 33, none, .gen (.convert t_int t_uint8 (.tmp 32)) t_uint8⟩, []),
          (⟨some 34, none, .gen (.binOp .shl t_uint8 (.tmp 33) (.const (.int .u64 6)) t_uint) t_uint8⟩, []),
          (⟨some 35, none, .gen (.binOp .or t_uint8 (.tmp 30) (.tmp 34) t_uint8) t_uint8⟩, []),
          (⟨some 36, none, .idxS 1 (.tmp 28) (.const (.int .i64 0))⟩, []),
          (⟨none, none, .store 1 (.tmp 36) (.tmp 35)⟩, [])])
        (.seq
         (.ops [
           ⟨some 37, none, .mv (.tmp 5)⟩,
           ⟨some 2, none, .mv (.tmp 37)⟩,
           ⟨some 3, none, .mv (.const (.int .i64 0))⟩])
         (.ret))))))))),
 [.tmp 2, .tmp 3]⟩

/-- vint.Get -/
def a_vint_Get : AFn := ⟨69,
 (.seq
  (.ops [
    ⟨some 4, none, .mv (.const (.int .u64 0))⟩,
    ⟨some 5, none, .mv (.const (.int .i64 0))⟩,
    ⟨some 6, none, .mv (.const (.int .i64 0))⟩])
  (.seq
   (.block 0
    (.seq
     (.ops [
       ⟨some 12, none, .mv (.tmp 1)⟩,
       ⟨some 13, none, .bin .lss t_int (.tmp 12) (.const (.int .i64 0))⟩,
       ⟨some 14, none, .mv (.tmp 13)⟩,
       ⟨some 15, some (14, false), .mv (.tmp 1)⟩,
       ⟨some 16, some (14, false), .mv (.tmp 0)⟩,
       ⟨some 17, some (14, false), .len (.tmp 16)⟩,
       ⟨some 18, some (14, false), .bin .gtr t_int (.tmp 15) (.tmp 17)⟩,
       ⟨some 19, none, .pick (.tmp 14) (.const (.bool true)) (.tmp 18)⟩,
       ⟨some 11, none, .mv (.tmp 19)⟩])
     (.cond (.tmp 11)
      (.seq
       (.ops [
         ⟨some 4, none, .mv (.const (.int .u64 0))⟩,
         ⟨some 5, none, .mv (.const (.int .i64 0))⟩,
         ⟨some 6, none, .mv (.const (.int .i64 1))⟩])
       (.ret))
      (.seq
       (.ops [
         ⟨some 21, none, .mv (.tmp 1)⟩,
         ⟨some 22, none, .mv (.tmp 0)⟩,
         ⟨some 23, none, .len (.tmp 22)⟩,
         ⟨some 24, none, .bin .eql t_int (.tmp 21) (.tmp 23)⟩,
         ⟨some 20, none, .mv (.tmp 24)⟩])
       (.cond (.tmp 20)
        (.seq
         (.ops [
           ⟨some 4, none, .mv (.const (.int .u64 0))⟩,
           ⟨some 5, none, .mv (.const (.int .i64 0))⟩,
           ⟨some 6, none, .mv (.const (.int .i64 10))⟩])
         (.ret))
        (.skip))))))
   (.seq
    (.ops [
      ⟨some 25, none, .mv (.tmp 0)⟩,
      ⟨some 26, none, .mv (.tmp 1)⟩,
      ⟨some 27, none, .idxS 1 (.tmp 25) (.tmp 26)⟩,
      ⟨some 28, none, .load1 (.tmp 27)⟩,
      ⟨some 29, none, .gen (.binOp .shr t_uint8 (.tmp 28) (.const (.int .u64 6)) t_uint) t_uint8⟩,
      ⟨some 30, none, .gen (.binOp .shl t_int (.const (.int .i64 1)) (.tmp 29) t_uint8) t_int⟩,
      ⟨some 7, none, .mv (.tmp 30)⟩])
    (.seq
     (.seq
      (.ops [
        ⟨some 31, none, .mv (.tmp 0)⟩,
        ⟨some 32, none, .len (.tmp 31)⟩,
        ⟨some 33, none, .mv (.tmp 1)⟩,
        ⟨some 34, none, .bin .sub t_int (.tmp 32) (.tmp 33)⟩,
        ⟨some 35, none, .mv (.tmp 7)⟩,
        ⟨some 36, none, .bin .lss t_int (.tmp 34) (.tmp 35)⟩])
      (.cond (.tmp 36)
       (.seq
        (.ops [
          ⟨some 4, none, .mv (.const (.int .u64 0))⟩,
          ⟨some 5, none, .mv (.const (.int .i64 0))⟩,
          ⟨some 6, none, .mv (.const (.int .i64 10))⟩])
        (.ret))
       (.skip)))
     (.seq
      (.ops [
        ⟨some 37, none, .mv (.tmp 0)⟩,
        ⟨some 38, none, .mv (.tmp 1)⟩,
        ⟨some 39, none, .idxS 1 (.tmp 37) (.tmp 38)⟩,
        ⟨some 40, none, .load1 (.tmp 39)⟩,
        ⟨some 41, none, .gen (.binOp .and t_uint8 (.tmp 40) (.const (.int .u8 63)) t_uint8) t_uint8⟩,
        ⟨some 42, none, .gen (.convert t_uint8 t_uint64 (.tmp 41)) t_uint64⟩,
        ⟨some 8, none, .mv (.tmp 42)⟩])
      (.seq
       (.seq
        (.ops [
          ⟨some 43, none, .mv (.tmp 0)⟩,
          ⟨some 44, none, .mv (.tmp 1)⟩,
          ⟨some 45, none, .bin .add t_int (.tmp 44) (.const (.int .i64 1))⟩,
          ⟨some 46, none, .mv (.tmp 1)⟩,
          ⟨some 47, none, .mv (.tmp 7)⟩,
          ⟨some 48, none, .bin .add t_int (.tmp 46) (.tmp 47)⟩,
          ⟨some 49, none, .gen (.slice t_S_uint8 (.tmp 43) (some (.tmp 45)) (some (.tmp 48)) none) t_S_uint8⟩,
          ⟨some 50, none, .len (.tmp 49)⟩,
          ⟨some 51, none, .mv (.const (.int .i64 0))⟩])
        (.block 1
         (.loop
          (.seq
           (.ops [
             ⟨some 52, none, .bin .lss t_int (.tmp 51) (.tmp 50)⟩])
           (.seq
            (.cond (.tmp 52)
             (.skip)
             (.exit 1))
            (.seq
             (.block 2
              (.seq
               (.ops [
                 ⟨some 53, none, .idxS 1 (.tmp 49) (.tmp 51)⟩,
                 ⟨some 54, none, .load1 (.tmp 53)⟩,
                 ⟨some 10, none, .mv (.tmp 54)⟩])
               (.ops [
                 ⟨some 55, none, .mv (.tmp 8)⟩,
                 ⟨some 56, none, .gen (.binOp .shl t_uint64 (.tmp 55) (.const (.int .u64 8)) t_uint) t_uint64⟩,
                 ⟨some 57, none, .mv (.tmp 10)⟩,
                 ⟨some 58, none, .gen (.convert t_uint8 t_uint64 (.tmp 57)) t_uint64⟩,
                 ⟨some 59, none, .gen (.binOp .or t_uint64 (.tmp 56) (.tmp 58) t_uint64) t_uint64⟩,
                 ⟨some 8, none, .mv (.tmp 59)⟩])))
             (.ops [
               ⟨some 60, none, .bin .add t_int (.tmp 51) (.const (.int .i64 1))⟩,
               ⟨some 51, none, .mv (.tmp 60)⟩])))))))
       (.seq
        (.seq
         (.ops [
           ⟨some 61, none, .mv (.tmp 8)⟩,
           ⟨some 62, none, .call n_vint_Size [(.tmp 61)]⟩,
           ⟨some 63, none, .mv (.tmp 7)⟩,
           ⟨some 64, none, .bin .neq t_int (.tmp 62) (.tmp 63)⟩])
         (.cond (.tmp 64)
          (.seq
           (.ops [
             ⟨some 4, none, .mv (.const (.int .u64 0))⟩,
             ⟨some 5, none, .mv (.const (.int .i64 0))⟩,
             ⟨some 6, none, .mv (.const (.int .i64 3))⟩])
           (.ret))
          (.skip)))
        (.seq
         (.ops [
           ⟨some 65, none, .mv (.tmp 8)⟩,
           ⟨some 66, none, .mv (.tmp 1)⟩,
           ⟨some 67, none, .mv (.tmp 7)⟩,
           ⟨some 68, none, .bin .add t_int (.tmp 66) (.tmp 67)⟩,
           ⟨some 4, none, .mv (.tmp 65)⟩,
           ⟨some 5, none, .mv (.tmp 68)⟩,
           ⟨some 6, none, .mv (.const (.int .i64 0))⟩])
         (.ret))))))))),
 [.tmp 4, .tmp 5, .tmp 6]⟩

/-- view.PutCell -/
def a_view_PutCell : AFn := ⟨32,
 (.seq
  (.ops [
    ⟨some 1, none, .box t_grid_Cell (.tmp 0)⟩,
    ⟨some 2, none, .mv (.const (.slice none 0 0))⟩,
    ⟨some 3, none, .mv (.const (.int .i64 0))⟩])
  (.seq
   (.seq
    (.ops [
      ⟨some 7, none, .loadN 4 (.tmp 1)⟩,
      ⟨some 8, none, .call n_view_isCell [(.tmp 7)]⟩,
      ⟨some 9, none, .not (.tmp 8)⟩])
    (.cond (.tmp 9)
     (.seq
      (.ops [
        ⟨some 2, none, .mv (.const (.slice none 0 0))⟩,
        ⟨some 3, none, .mv (.const (.int .i64 3))⟩])
      (.ret))
     (.skip)))
   (.seq
    (.ops [
      ⟨some 11, none, .fld 1 (.tmp 1)⟩,
      ⟨some 12, none, .loadN 3 (.tmp 11)⟩,
      ⟨some 13, none, .call n_style_Write [(.tmp 12)]⟩,
      ⟨some 10, none, .mv (.tmp 13)⟩,
      ⟨some 14, none, .ext (.tmp 10) 0⟩,
      ⟨some 15, none, .ext (.tmp 10) 1⟩,
      ⟨some 4, none, .mv (.tmp 14)⟩,
      ⟨some 5, none, .mv (.tmp 15)⟩])
    (.seq
     (.seq
      (.ops [
        ⟨some 16, none, .mv (.tmp 5)⟩,
        ⟨some 17, none, .bin .neq t_api_Errno (.tmp 16) (.const (.int .i64 0))⟩])
      (.cond (.tmp 17)
       (.seq
        (.ops [
          ⟨some 18, none, .mv (.tmp 5)⟩,
          ⟨some 2, none, .mv (.const (.slice none 0 0))⟩,
          ⟨some 3, none, .mv (.tmp 18)⟩])
        (.ret))
       (.skip)))
     (.seq
      (.ops [
        ⟨some 20, none, .fld 0 (.tmp 1)⟩,
        ⟨some 21, none, .load1 (.tmp 20)⟩,
        ⟨some 22, none, .gen (.convert t_int32 t_uint64 (.tmp 21)) t_uint64⟩,
        ⟨some 23, none, .call n_vint_Put [(.tmp 22)]⟩,
        ⟨some 19, none, .mv (.tmp 23)⟩,
        ⟨some 24, none, .ext (.tmp 19) 0⟩,
        ⟨some 25, none, .ext (.tmp 19) 1⟩,
        ⟨some 6, none, .mv (.tmp 24)⟩,
        ⟨some 5, none, .mv (.tmp 25)⟩])
      (.seq
       (.seq
        (.ops [
          ⟨some 26, none, .mv (.tmp 5)⟩,
          ⟨some 27, none, .bin .neq t_api_Errno (.tmp 26) (.const (.int .i64 0))⟩])
        (.cond (.tmp 27)
         (.seq
          (.ops [
            ⟨some 28, none, .mv (.tmp 5)⟩,
            ⟨some 2, none, .mv (.const (.slice none 0 0))⟩,
            ⟨some 3, none, .mv (.tmp 28)⟩])
          (.ret))
         (.skip)))
       (.seq
        (.ops [
          ⟨some 29, none, .mv (.tmp 4)⟩,
          ⟨some 30, none, .mv (.tmp 6)⟩,
          ⟨some 31, none, .gen (.call ⟨.builtin .append, #[(.tmp 29), (.tmp 30)], #[t_S_uint8, t_S_uint8]⟩) t_S_uint8⟩,
          ⟨some 2, none, .mv (.tmp 31)⟩,
          ⟨some 3, none, .mv (.const (.int .i64 0))⟩])
        (.ret)))))))),
 [.tmp 2, .tmp 3]⟩

/-- view.GetCell -/
def a_view_GetCell : AFn := ⟨45,
 (.seq
  (.ops [
    ⟨some 4, none, .new t_grid_Cell [(.int .i32 0), (.int .u8 0), (.int .u32 0), (.int .u32 0)]⟩,
    ⟨some 5, none, .mv (.const (.int .i64 0))⟩,
    ⟨some 6, none, .mv (.const (.int .i64 0))⟩])
  (.seq
   (.ops [
     ⟨some 13, none, .mv (.tmp 0)⟩,
     ⟨some 14, none, .mv (.tmp 1)⟩,
     ⟨some 15, none, .call n_style_Read [(.tmp 13), (.tmp 14)]⟩,
     ⟨some 12, none, .mv (.tmp 15)⟩,
     ⟨some 16, none, .ext (.tmp 12) 0⟩,
     ⟨some 17, none, .ext (.tmp 12) 1⟩,
     ⟨some 18, none, .ext (.tmp 12) 2⟩,
     ⟨some 7, none, .new t_style_Style [(.int .u8 0), (.int .u32 0), (.int .u32 0)]⟩,
     ⟨none, none, .store 3 (.tmp 7) (.tmp 16)⟩,
     ⟨some 8, none, .mv (.tmp 17)⟩,
     ⟨some 9, none, .mv (.tmp 18)⟩])
   (.seq
    (.seq
     (.ops [
       ⟨some 19, none, .mv (.tmp 9)⟩,
       ⟨some 20, none, .bin .neq t_api_Errno (.tmp 19) (.const (.int .i64 0))⟩])
     (.cond (.tmp 20)
      (.seq
       (.ops [
         ⟨some 21, none, .gen (.build t_grid_Cell #[]) t_grid_Cell⟩,
         ⟨some 22, none, .mv (.tmp 9)⟩,
         ⟨none, none, .store 4 (.tmp 4) (.tmp 21)⟩,
         ⟨some 5, none, .mv (.const (.int .i64 0))⟩,
         ⟨some 6, none, .mv (.tmp 22)⟩])
       (.ret))
      (.skip)))
    (.seq
     (.ops [
       ⟨some 24, none, .mv (.tmp 0)⟩,
       ⟨some 25, none, .mv (.tmp 8)⟩,
       ⟨some 26, none, .call n_vint_Get [(.tmp 24), (.tmp 25)]⟩,
       ⟨some 23, none, .mv (.tmp 26)⟩,
       ⟨some 27, none, .ext (.tmp 23) 0⟩,
       ⟨some 28, none, .ext (.tmp 23) 1⟩,
       ⟨some 29, none, .ext (.tmp 23) 2⟩,
       ⟨some 10, none, .mv (.tmp 27)⟩,
       ⟨some 8, none, .mv (.tmp 28)⟩,
       ⟨some 9, none, .mv (.tmp 29)⟩])
     (.seq
      (.seq
       (.ops [
         ⟨some 30, none, .mv (.tmp 9)⟩,
         ⟨some 31, none, .bin .neq t_api_Errno (.tmp 30) (.const (.int .i64 0))⟩])
       (.cond (.tmp 31)
        (.seq
         (.ops [
           ⟨some 32, none, .gen (.build t_grid_Cell #[]) t_grid_Cell⟩,
           ⟨some 33, none, .mv (.tmp 9)⟩,
           ⟨none, none, .store 4 (.tmp 4) (.tmp 32)⟩,
           ⟨some 5, none, .mv (.const (.int .i64 0))⟩,
           ⟨some 6, none, .mv (.tmp 33)⟩])
         (.ret))
        (.skip)))
      (.seq
       (.ops [
         ⟨some 34, none, .mv (.tmp 10)⟩,
         ⟨some 35, none, .gen (.call ⟨.builtin .min, #[(.tmp 34), (.const (.int .u64 1114112))], #[t_uint64, t_uint64]⟩) t_uint64⟩,
         ⟨some 36, none, .gen (.convert t_uint64 t_int32 (.tmp 35)) t_int32⟩,
         ⟨some 37, none, .loadN 3 (.tmp 7)⟩,
         ⟨some 38, none, .gen (.build t_grid_Cell #[(0, (.tmp 36)), (1, (.tmp 37))]) t_grid_Cell⟩,
         ⟨some 11, none, .new t_grid_Cell [(.int .i32 0), (.int .u8 0), (.int .u32 0), (.int .u32 0)]⟩,
         ⟨none, none, .store 4 (.tmp 11) (.tmp 38)⟩])
       (.seq
        (.seq
         (.ops [
           ⟨some 39, none, .loadN 4 (.tmp 11)⟩,
           ⟨some 40, none, .call n_view_isCell [(.tmp 39)]⟩,
           ⟨some 41, none, .not (.tmp 40)⟩])
         (.cond (.tmp 41)
          (.seq
           (.ops [
             ⟨some 42, none, .gen (.build t_grid_Cell #[]) t_grid_Cell⟩,
             ⟨none, none, .store 4 (.tmp 4) (.tmp 42)⟩,
             ⟨some 5, none, .mv (.const (.int .i64 0))⟩,
             ⟨some 6, none, .mv (.const (.int .i64 3))⟩])
           (.ret))
          (.skip)))
        (.seq
         (.ops [
           ⟨some 43, none, .loadN 4 (.tmp 11)⟩,
           ⟨some 44, none, .mv (.tmp 8)⟩,
           ⟨none, none, .store 4 (.tmp 4) (.tmp 43)⟩,
           ⟨some 5, none, .mv (.tmp 44)⟩,
           ⟨some 6, none, .mv (.const (.int .i64 0))⟩])
         (.ret))))))))),
 [.cell 4 t_grid_Cell, .tmp 5, .tmp 6]⟩

/-- slices.Repeat[[]grid.Cell,grid.Cell] -/
def a_slices_Repeat_grid_Cell_grid_Cell : AFn := ⟨48,
 (.seq
  (.ops [
    ⟨some 4, none, .mv (.const (.slice none 0 0))⟩])
  (.seq
   (.seq
    (.ops [
      ⟨some 9, none, .mv (.tmp 1)⟩,
      ⟨some 10, none, .bin .lss t_int (.tmp 9) (.const (.int .i64 0))⟩])
    (.cond (.tmp 10)
     (.ops [
       ⟨some 11, none, .gen (.makeInterface t_string (.const (.string ⟨#[99, 97, 110, 110, 111, 116, 32, 98, 101, 32, 110, 101, 103, 97, 116, 105, 118, 101]⟩))) t_interface⟩,
       ⟨none, none, .gen (.panic (.tmp 11)) t_0⟩])
     (.skip)))
   (.seq
    (.ops [
      ⟨some 13, none, .mv (.tmp 0)⟩,
      ⟨some 14, none, .len (.tmp 13)⟩,
      ⟨some 15, none, .gen (.convert t_int t_uint (.tmp 14)) t_uint⟩,
      ⟨some 16, none, .mv (.tmp 1)⟩,
      ⟨some 17, none, .gen (.convert t_int t_uint (.tmp 16)) t_uint⟩,
      ⟨some 18, none, .call n_math_bits_Mul [(.tmp 15), (.tmp 17)]⟩,
      ⟨some 12, none, .mv (.tmp 18)⟩,
      ⟨some 19, none, .ext (.tmp 12) 0⟩,
      ⟨some 20, none, .ext (.tmp 12) 1⟩,
      ⟨some 5, none, .mv (.tmp 19)⟩,
      ⟨some 6, none, .mv (.tmp 20)⟩])
    (.seq
     (.seq
      (.ops [
        ⟨some 21, none, .mv (.tmp 5)⟩,
        ⟨some 22, none, .bin .gtr t_uint (.tmp 21) (.const (.int .u64 0))⟩,
        ⟨some 23, none, .mv (.tmp 22)⟩,
        ⟨some 24, some (23, false), .mv (.tmp 6)⟩,
        ⟨some 25, some (23, false), .bin .gtr t_uint (.tmp 24) (.const (.int .u64 9223372036854775807))⟩,
        ⟨some 26, none, .pick (.tmp 23) (.const (.bool true)) (.tmp 25)⟩])
      (.cond (.tmp 26)
       (.ops [
         ⟨some 27, none, .gen (.makeInterface t_string (.const (.string ⟨#[116, 104, 101, 32, 114, 101, 115, 117, 108, 116, 32, 111, 102, 32, 40, 108, 101, 110, 40, 120, 41, 32, 42, 32, 99, 111, 117, 110, 116, 41, 32, 111, 118, 101, 114, 102, 108, 111, 119, 115]⟩))) t_interface⟩,
         ⟨none, none, .gen (.panic (.tmp 27)) t_0⟩])
       (.skip)))
     (.seq
      (.ops [
        ⟨some 28, none, .mv (.tmp 6)⟩,
        ⟨some 29, none, .gen (.convert t_uint t_int (.tmp 28)) t_int⟩,
        ⟨some 30, none, .gen (.makeSlice t_S_grid_Cell (.tmp 29) (.tmp 29)) t_S_grid_Cell⟩,
        ⟨some 7, none, .mv (.tmp 30)⟩])
      (.seq
       (.ops [
         ⟨some 31, none, .mv (.tmp 7)⟩,
         ⟨some 32, none, .mv (.tmp 0)⟩,
         ⟨some 33, none, .gen (.call ⟨.builtin .copy, #[(.tmp 31), (.tmp 32)], #[t_S_grid_Cell, t_S_grid_Cell]⟩) t_int⟩,
         ⟨some 8, none, .mv (.tmp 33)⟩])
       (.seq
        (.block 0
         (.loop
          (.seq
           (.seq
            (.ops [
              ⟨some 34, none, .mv (.tmp 8)⟩,
              ⟨some 35, none, .mv (.tmp 7)⟩,
              ⟨some 36, none, .len (.tmp 35)⟩,
              ⟨some 37, none, .bin .lss t_int (.tmp 34) (.tmp 36)⟩])
            (.cond (.tmp 37)
             (.skip)
             (.exit 0)))
           (.block 1
            (.plan [
              (⟨some 38, none, .mv (.tmp 8)⟩, []),
              (⟨some 39, none, .mv (.tmp 7)⟩, []),
              (⟨some 40, none, .mv (.tmp 8)⟩, []),
              (⟨some 41, none, .gen (.slice t_S_grid_Cell (.tmp 39) (some (.tmp 40)) none none) t_S_grid_Cell⟩, []),
              (⟨some 42, none, .mv (.tmp 7)⟩, []),
              (⟨some 43, none, .mv (.tmp 8)⟩, []),
              (⟨some 44, none, .gen (.slice t_S_grid_Cell (.tmp 42) none (some (.tmp 43)) none) t_S_grid_Cell⟩, []),
              (⟨some 45, none, .gen (.call ⟨.builtin .copy, #[(.tmp 41), (.tmp 44)], #[t_S_grid_Cell, t_S_grid_Cell]⟩) t_int⟩, []),
              (⟨some 46, none, .bin .add t_int (.tmp 38) (.tmp 45)⟩, []),
              (⟨some 8, none, .mv (.tmp 46)⟩, [])])))))
        (.seq
         (.ops [
           ⟨some 47, none, .mv (.tmp 7)⟩,
           ⟨some 4, none, .mv (.tmp 47)⟩])
         (.ret))))))))),
 [.tmp 4]⟩

/-- bytes.Equal -/
def a_bytes_Equal : AFn := ⟨10,
 (.seq
  (.ops [
    ⟨some 4, none, .mv (.const (.bool false))⟩])
  (.seq
   (.ops [
     ⟨some 5, none, .mv (.tmp 0)⟩,
     ⟨some 6, none, .gen (.convert t_S_uint8 t_string (.tmp 5)) t_string⟩,
     ⟨some 7, none, .mv (.tmp 1)⟩,
     ⟨some 8, none, .gen (.convert t_S_uint8 t_string (.tmp 7)) t_string⟩,
     ⟨some 9, none, .gen (.binOp .eql t_string (.tmp 6) (.tmp 8) t_string) t_bool⟩,
     ⟨some 4, none, .mv (.tmp 9)⟩])
   (.ret))),
 [.tmp 4]⟩

/-- slices.Equal[[]grid.Cell,grid.Cell] -/
def a_slices_Equal_grid_Cell_grid_Cell : AFn := ⟨26,
 (.seq
  (.ops [
    ⟨some 4, none, .mv (.const (.bool false))⟩])
  (.seq
   (.seq
    (.ops [
      ⟨some 6, none, .mv (.tmp 0)⟩,
      ⟨some 7, none, .len (.tmp 6)⟩,
      ⟨some 8, none, .mv (.tmp 1)⟩,
      ⟨some 9, none, .len (.tmp 8)⟩,
      ⟨some 10, none, .bin .neq t_int (.tmp 7) (.tmp 9)⟩])
    (.cond (.tmp 10)
     (.seq
      (.ops [
        ⟨some 4, none, .mv (.const (.bool false))⟩])
      (.ret))
     (.skip)))
   (.seq
    (.seq
     (.ops [
       ⟨some 11, none, .mv (.tmp 0)⟩,
       ⟨some 12, none, .len (.tmp 11)⟩,
       ⟨some 13, none, .mv (.const (.int .i64 0))⟩])
     (.block 0
      (.loop
       (.seq
        (.ops [
          ⟨some 14, none, .bin .lss t_int (.tmp 13) (.tmp 12)⟩])
        (.seq
         (.cond (.tmp 14)
          (.skip)
          (.exit 0))
         (.seq
          (.block 1
           (.seq
            (.ops [
              ⟨some 15, none, .mv (.tmp 13)⟩,
              ⟨some 5, none, .mv (.tmp 15)⟩])
            (.seq
             (.plan [
               (⟨some 16, none, .mv (.tmp 0)⟩, []),
               (⟨some 17, none, .mv (.tmp 5)⟩, []),
               (⟨some 18, none, .idxS 4 (.tmp 16) (.tmp 17)⟩, []),
               (⟨some 19, none, .loadN 4 (.tmp 18)⟩, []),
               (⟨some 20, none, .mv (.tmp 1)⟩, []),
               (⟨some 21, none, .mv (.tmp 5)⟩, []),
               (⟨some 22, none, .idxS 4 (.tmp 20) (.tmp 21)⟩, []),
               (⟨some 23, none, .loadN 4 (.tmp 22)⟩, []),
               (⟨some 24, none, .gen (.binOp .neq t_grid_Cell (.tmp 19) (.tmp 23) t_grid_Cell) t_bool⟩, [])])
             (.cond (.tmp 24)
              (.seq
               (.ops [
                 ⟨some 4, none, .mv (.const (.bool false))⟩])
               (.ret))
              (.skip)))))
          (.ops [
            ⟨some 25, none, .bin .add t_int (.tmp 13) (.const (.int .i64 1))⟩,
            ⟨some 13, none, .mv (.tmp 25)⟩])))))))
    (.seq
     (.ops [
       ⟨some 4, none, .mv (.const (.bool true))⟩])
     (.ret))))),
 [.tmp 4]⟩

/-- (*grid.Grid).has -/
def a_grid_Grid_has : AFn := ⟨35,
 (.seq
  (.ops [
    ⟨some 6, none, .mv (.const (.int .i64 0))⟩])
  (.seq
   (.block 0
    (.seq
     (.ops [
       ⟨some 8, none, .mv (.tmp 0)⟩,
       ⟨some 9, none, .call n_grid_Grid_made [(.tmp 8)]⟩,
       ⟨some 10, none, .not (.tmp 9)⟩,
       ⟨some 7, none, .mv (.tmp 10)⟩])
     (.cond (.tmp 7)
      (.seq
       (.ops [
         ⟨some 6, none, .mv (.const (.int .i64 6))⟩])
       (.ret))
      (.seq
       (.ops [
         ⟨some 12, none, .mv (.tmp 1)⟩,
         ⟨some 13, none, .bin .lss t_int (.tmp 12) (.const (.int .i64 0))⟩,
         ⟨some 14, none, .mv (.tmp 13)⟩,
         ⟨some 15, some (14, false), .mv (.tmp 1)⟩,
         ⟨some 16, some (14, false), .mv (.tmp 0)⟩,
         ⟨some 17, some (14, false), .nil (.tmp 16)⟩,
         ⟨some 18, some (14, false), .fld 1 (.tmp 17)⟩,
         ⟨some 19, some (14, false), .load1 (.tmp 18)⟩,
         ⟨some 20, some (14, false), .len (.tmp 19)⟩,
         ⟨some 21, some (14, false), .bin .geq t_int (.tmp 15) (.tmp 20)⟩,
         ⟨some 22, none, .pick (.tmp 14) (.const (.bool true)) (.tmp 21)⟩,
         ⟨some 23, none, .mv (.tmp 22)⟩,
         ⟨some 24, some (23, false), .mv (.tmp 2)⟩,
         ⟨some 25, some (23, false), .bin .lss t_int (.tmp 24) (.const (.int .i64 0))⟩,
         ⟨some 26, none, .pick (.tmp 23) (.const (.bool true)) (.tmp 25)⟩,
         ⟨some 27, none, .mv (.tmp 26)⟩,
         ⟨some 28, some (27, false), .mv (.tmp 2)⟩,
         ⟨some 29, some (27, false), .mv (.tmp 0)⟩,
         ⟨some 30, some (27, false), .nil (.tmp 29)⟩,
         ⟨some 31, some (27, false), .fld 0 (.tmp 30)⟩,
         ⟨some 32, some (27, false), .load1 (.tmp 31)⟩,
         ⟨some 33, some (27, false), .bin .geq t_int (.tmp 28) (.tmp 32)⟩,
         ⟨some 34, none, .pick (.tmp 27) (.const (.bool true)) (.tmp 33)⟩,
         ⟨some 11, none, .mv (.tmp 34)⟩])
       (.cond (.tmp 11)
        (.seq
         (.ops [
           ⟨some 6, none, .mv (.const (.int .i64 1))⟩])
         (.ret))
        (.skip))))))
   (.seq
    (.ops [
      ⟨some 6, none, .mv (.const (.int .i64 0))⟩])
    (.ret)))),
 [.tmp 6]⟩

/-- slices.IndexFunc[[]grid.Cell,grid.Cell] -/
def a_slices_IndexFunc_grid_Cell_grid_Cell : AFn := ⟨19,
 (.seq
  (.ops [
    ⟨some 4, none, .mv (.const (.int .i64 0))⟩])
  (.seq
   (.seq
    (.ops [
      ⟨some 6, none, .mv (.tmp 0)⟩,
      ⟨some 7, none, .len (.tmp 6)⟩,
      ⟨some 8, none, .mv (.const (.int .i64 0))⟩])
    (.block 0
     (.loop
      (.seq
       (.ops [
         ⟨some 9, none, .bin .lss t_int (.tmp 8) (.tmp 7)⟩])
       (.seq
        (.cond (.tmp 9)
         (.skip)
         (.exit 0))
        (.seq
         (.block 1
          (.seq
           (.ops [
             ⟨some 10, none, .mv (.tmp 8)⟩,
             ⟨some 5, none, .mv (.tmp 10)⟩])
           (.seq
            (.ops [
              ⟨some 11, none, .mv (.tmp 1)⟩,
              ⟨some 12, none, .mv (.tmp 0)⟩,
              ⟨some 13, none, .mv (.tmp 5)⟩,
              ⟨some 14, none, .idxS 4 (.tmp 12) (.tmp 13)⟩,
              ⟨some 15, none, .loadN 4 (.tmp 14)⟩,
              ⟨some 16, none, .callv (.tmp 11) [(.tmp 15)]⟩])
            (.cond (.tmp 16)
             (.seq
              (.ops [
                ⟨some 17, none, .mv (.tmp 5)⟩,
                ⟨some 4, none, .mv (.tmp 17)⟩])
              (.ret))
             (.skip)))))
         (.ops [
           ⟨some 18, none, .bin .add t_int (.tmp 8) (.const (.int .i64 1))⟩,
           ⟨some 8, none, .mv (.tmp 18)⟩])))))))
   (.seq
    (.ops [
      ⟨some 4, none, .mv (.const (.int .i64 (-1)))⟩])
    (.ret)))),
 [.tmp 4]⟩

/-- utf.Is -/
def a_utf_Is : AFn := ⟨17,
 (.seq
  (.ops [
    ⟨some 2, none, .mv (.const (.bool false))⟩])
  (.seq
   (.ops [
     ⟨some 3, none, .mv (.tmp 0)⟩,
     ⟨some 4, none, .bin .geq t_int32 (.tmp 3) (.const (.int .i32 0))⟩,
     ⟨some 5, none, .mv (.tmp 4)⟩,
     ⟨some 6, some (5, true), .mv (.tmp 0)⟩,
     ⟨some 7, some (5, true), .bin .leq t_int32 (.tmp 6) (.const (.int .i32 1114111))⟩,
     ⟨some 8, none, .pick (.tmp 5) (.tmp 7) (.const (.bool false))⟩,
     ⟨some 9, none, .mv (.tmp 8)⟩,
     ⟨some 10, some (9, true), .mv (.tmp 0)⟩,
     ⟨some 11, some (9, true), .bin .lss t_int32 (.tmp 10) (.const (.int .i32 55296))⟩,
     ⟨some 12, some (9, true), .mv (.tmp 11)⟩,
     ⟨some 13, some (12, false), .mv (.tmp 0)⟩,
     ⟨some 14, some (12, false), .bin .gtr t_int32 (.tmp 13) (.const (.int .i32 57343))⟩,
     ⟨some 15, some (9, true), .pick (.tmp 12) (.const (.bool true)) (.tmp 14)⟩,
     ⟨some 16, none, .pick (.tmp 9) (.tmp 15) (.const (.bool false))⟩,
     ⟨some 2, none, .mv (.tmp 16)⟩])
   (.ret))),
 [.tmp 2]⟩

/-- style.Right -/
def a_style_Right : AFn := ⟨11,
 (.seq
  (.ops [
    ⟨some 1, none, .box t_style_Style (.tmp 0)⟩,
    ⟨some 2, none, .mv (.const (.bool false))⟩])
  (.seq
   (.ops [
     ⟨some 3, none, .fld 1 (.tmp 1)⟩,
     ⟨some 4, none, .load1 (.tmp 3)⟩,
     ⟨some 5, none, .call n_style_isColour [(.tmp 4)]⟩,
     ⟨some 6, none, .mv (.tmp 5)⟩,
     ⟨some 7, some (6, true), .fld 2 (.tmp 1)⟩,
     ⟨some 8, some (6, true), .load1 (.tmp 7)⟩,
     ⟨some 9, some (6, true), .call n_style_isColour [(.tmp 8)]⟩,
     ⟨some 10, none, .pick (.tmp 6) (.tmp 9) (.const (.bool false))⟩,
     ⟨some 2, none, .mv (.tmp 10)⟩])
   (.ret))),
 [.tmp 2]⟩

/-- longlinelaw16.As -/
def a_law16_As : AFn := ⟨10,
 (.seq
  (.ops [
    ⟨some 1, none, .box t_style_Style (.tmp 0)⟩,
    ⟨some 2, none, .new t_longlineref16_Style [(.bool false), (.bool false), (.bool false), (.bool false), (.bool false), (.bool false), (.bool false), (.bool false), (.int .u32 0), (.int .u32 0)]⟩])
  (.seq
   (.ops [
     ⟨some 3, none, .fld 0 (.tmp 1)⟩,
     ⟨some 4, none, .load1 (.tmp 3)⟩,
     ⟨some 5, none, .fld 1 (.tmp 1)⟩,
     ⟨some 6, none, .load1 (.tmp 5)⟩,
     ⟨some 7, none, .fld 2 (.tmp 1)⟩,
     ⟨some 8, none, .load1 (.tmp 7)⟩,
     ⟨some 9, none, .call n_ref16_Of [(.tmp 4), (.tmp 6), (.tmp 8)]⟩,
     ⟨none, none, .store 10 (.tmp 2) (.tmp 9)⟩])
   (.ret))),
 [.cell 2 t_longlineref16_Style]⟩

/-- patch.Diff -/
def a_patch_Diff : AFn := ⟨116,
 (.seq
  (.ops [
    ⟨some 2, none, .box t_view_View (.tmp 0)⟩,
    ⟨some 3, none, .box t_view_View (.tmp 1)⟩,
    ⟨some 4, none, .mv (.const (.slice none 0 0))⟩,
    ⟨some 5, none, .mv (.const (.int .i64 0))⟩])
  (.seq
   (.seq
    (.ops [
      ⟨some 15, none, .loadN 6 (.tmp 2)⟩,
      ⟨some 16, none, .call n_view_Right [(.tmp 15)]⟩,
      ⟨some 17, none, .not (.tmp 16)⟩,
      ⟨some 18, none, .mv (.tmp 17)⟩,
      ⟨some 19, some (18, false), .loadN 6 (.tmp 3)⟩,
      ⟨some 20, some (18, false), .call n_view_Right [(.tmp 19)]⟩,
      ⟨some 21, some (18, false), .not (.tmp 20)⟩,
      ⟨some 22, none, .pick (.tmp 18) (.const (.bool true)) (.tmp 21)⟩])
    (.cond (.tmp 22)
     (.seq
      (.ops [
        ⟨some 4, none, .mv (.const (.slice none 0 0))⟩,
        ⟨some 5, none, .mv (.const (.int .i64 3))⟩])
      (.ret))
     (.skip)))
   (.seq
    (.ops [
      ⟨some 23, none, .fld 0 (.tmp 3)⟩,
      ⟨some 24, none, .load1 (.tmp 23)⟩,
      ⟨some 25, none, .gen (.convert t_int t_uint8 (.tmp 24)) t_uint8⟩,
      ⟨some 26, none, .fld 1 (.tmp 3)⟩,
      ⟨some 27, none, .load1 (.tmp 26)⟩,
      ⟨some 28, none, .gen (.convert t_int t_uint8 (.tmp 27)) t_uint8⟩,
      ⟨some 29, none, .fld 3 (.tmp 3)⟩,
      ⟨some 30, none, .load1 (.tmp 29)⟩,
      ⟨some 31, none, .gen (.convert t_int t_uint8 (.tmp 30)) t_uint8⟩,
      ⟨some 32, none, .fld 4 (.tmp 3)⟩,
      ⟨some 33, none, .load1 (.tmp 32)⟩,
      ⟨some 34, none, .gen (.convert t_int t_uint8 (.tmp 33)) t_uint8⟩,
      ⟨some 35, none, .gen (.buildSlice t_S_uint8 5 #[(0, (.tmp 25)), (1, (.tmp 28)), (2, (.tmp 31)), (3, (.tmp 34)), (4, (.const (.int .u8 0)))]) t_S_uint8⟩,
      ⟨some 6, none, .mv (.tmp 35)⟩])
    (.seq
     (.seq
      (.ops [
        ⟨some 36, none, .fld 5 (.tmp 3)⟩,
        ⟨some 37, none, .load1 (.tmp 36)⟩])
      (.cond (.tmp 37)
       (.ops [
         ⟨some 38, none, .mv (.tmp 6)⟩,
         ⟨some 39, none, .idxS 1 (.tmp 38) (.const (.int .i64 4))⟩,
         ⟨none, none, .store 1 (.tmp 39) (.const (.int .u8 1))⟩])
       (.skip)))
     (.seq
      (.ops [
        ⟨some 40, none, .loadN 6 (.tmp 2)⟩,
        ⟨some 41, none, .fld 0 (.tmp 3)⟩,
        ⟨some 42, none, .load1 (.tmp 41)⟩,
        ⟨some 43, none, .fld 1 (.tmp 3)⟩,
        ⟨some 44, none, .load1 (.tmp 43)⟩,
        ⟨some 45, none, .call n_patch_base [(.tmp 40), (.tmp 42), (.tmp 44)]⟩,
        ⟨some 7, none, .mv (.tmp 45)⟩])
      (.seq
       (.ops [
         ⟨some 8, none, .mv (.const (.int .i64 0))⟩])
       (.seq
        (.seq
         (.ops [
           ⟨some 9, none, .mv (.const (.int .i64 0))⟩])
         (.block 0
          (.loop
           (.seq
            (.seq
             (.ops [
               ⟨some 46, none, .mv (.tmp 9)⟩,
               ⟨some 47, none, .mv (.tmp 7)⟩,
               ⟨some 48, none, .len (.tmp 47)⟩,
               ⟨some 49, none, .bin .lss t_int (.tmp 46) (.tmp 48)⟩])
             (.cond (.tmp 49)
              (.skip)
              (.exit 0)))
            (.seq
             (.block 1
              (.seq
               (.seq
                (.plan [
                  (⟨some 52, none, .mv (.tmp 7)⟩, []),
                  (⟨some 53, none, .mv (.tmp 9)⟩, []),
                  (⟨some 54, none, .idxS 4 (.tmp 52) (.tmp 53)⟩, []),
                  (⟨some 55, none, .loadN 4 (.tmp 54)⟩, []),
                  (⟨some 56, none, .fld 2 (.tmp 3)⟩, []),
                  (⟨some 57, none, .load1 (.tmp 56)⟩, []),
                  (⟨some 58, none, .mv (.tmp 9)⟩, []),
                  (⟨some 59, none, .idxS 4 (.tmp 57) (.tmp 58)⟩, []),
                  (⟨some 60, none, .loadN 4 (.tmp 59)⟩, []),
                  (⟨some 61, none, .gen (.binOp .eql t_grid_Cell (.tmp 55) (.tmp 60) t_grid_Cell) t_bool⟩, [])])
                (.cond (.tmp 61)
                 (.exit 1)
                 (.skip)))
               (.seq
                (.ops [
                  ⟨some 62, none, .mv (.tmp 9)⟩,
                  ⟨some 10, none, .mv (.tmp 62)⟩])
                (.seq
                 (.block 2
                  (.loop
                   (.seq
                    (.seq
                     (.plan [
                       (⟨some 63, none, .mv (.tmp 10)⟩, []),
                       (⟨some 64, none, .mv (.tmp 7)⟩, []),
                       (⟨some 65, none, .len (.tmp 64)⟩, []),
                       (⟨some 66, none, .bin .lss t_int (.tmp 63) (.tmp 65)⟩, []),
                       (⟨some 67, none, .mv (.tmp 66)⟩, []),
                       (⟨some 68, some (67, true), .mv (.tmp 7)⟩, []),
                       (⟨some 69, some (67, true), .mv (.tmp 10)⟩, []),
                       (⟨some 70, some (67, true), .idxS 4 (.tmp 68) (.tmp 69)⟩, []),
                       (⟨some 71, some (67, true), .loadN 4 (.tmp 70)⟩, []),
                       (⟨some 72, some (67, true), .fld 2 (.tmp 3)⟩, []),
                       (⟨some 73, some (67, true), .load1 (.tmp 72)⟩, []),
                       (⟨some 74, some (67, true), .mv (.tmp 10)⟩, []),
                       (⟨some 75, some (67, true), .idxS 4 (.tmp 73) (.tmp 74)⟩, []),
                       (⟨some 76, some (67, true), .loadN 4 (.tmp 75)⟩, []),
                       (⟨some 77, some (67, true), .gen (.binOp .neq t_grid_Cell (.tmp 71) (.tmp 76) t_grid_Cell) t_bool⟩, []),
                       (⟨some 78, none, .pick (.tmp 67) (.tmp 77) (.const (.bool false))⟩, [])])
                     (.cond (.tmp 78)
                      (.skip)
                      (.exit 2)))
                    (.block 3
                     (.ops [
                       ⟨some 79, none, .mv (.tmp 10)⟩,
                       ⟨some 80, none, .bin .add t_int (.tmp 79) (.const (.int .i64 1))⟩,
                       ⟨some 10, none, .mv (.tmp 80)⟩])))))
                 (.seq
                  (.ops [
                    ⟨some 81, none, .mv (.tmp 6)⟩,
                    ⟨some 82, none, .mv (.tmp 9)⟩,
                    ⟨some 83, none, .mv (.tmp 8)⟩,
                    ⟨some 84, none, .bin .sub t_int (.tmp 82) (.tmp 83)⟩,
                    ⟨some 85, none, .mv (.tmp 10)⟩,
                    ⟨some 86, none, .mv (.tmp 9)⟩,
                    ⟨some 87, none, .bin .sub t_int (.tmp 85) (.tmp 86)⟩,
                    ⟨some 88, none, .gen (.buildSlice t_S_int 2 #[(0, (.tmp 84)), (1, (.tmp 87))]) t_S_int⟩,
                    ⟨some 89, none, .call n_patch_numbers [(.tmp 88)]⟩,
                    ⟨some 90, none, .gen (.call ⟨.builtin .append, #[(.tmp 81), (.tmp 89)], #[t_S_uint8, t_S_uint8]⟩) t_S_uint8⟩,
                    ⟨some 6, none, .mv (.tmp 90)⟩])
                  (.seq
                   (.seq
                    (.ops [
                      ⟨some 91, none, .fld 2 (.tmp 3)⟩,
                      ⟨some 92, none, .load1 (.tmp 91)⟩,
                      ⟨some 93, none, .mv (.tmp 9)⟩,
                      ⟨some 94, none, .mv (.tmp 10)⟩,
                      ⟨some 95, none, .gen (.slice t_S_grid_Cell (.tmp 92) (some (.tmp 93)) (some (.tmp 94)) none) t_S_grid_Cell⟩,
                      ⟨some 96, none, .len (.tmp 95)⟩,
                      ⟨some 97, none, .mv (.const (.int .i64 0))⟩])
                    (.block 4
                     (.loop
                      (.seq
                       (.ops [
                         ⟨some 98, none, .bin .lss t_int (.tmp 97) (.tmp 96)⟩])
                       (.seq
                        (.cond (.tmp 98)
                         (.skip)
                         (.exit 4))
                        (.seq
                         (.block 5
                          (.seq
                           (.ops [
                             ⟨some 99, none, .idxS 4 (.tmp 95) (.tmp 97)⟩,
                             ⟨some 100, none, .loadN 4 (.tmp 99)⟩,
                             ⟨some 12, none, .new t_grid_Cell [(.int .i32 0), (.int .u8 0), (.int .u32 0), (.int .u32 0)]⟩,
                             ⟨none, none, .store 4 (.tmp 12) (.tmp 100)⟩])
                           (.seq
                            (.ops [
                              ⟨some 102, none, .loadN 4 (.tmp 12)⟩,
                              ⟨some 103, none, .call n_view_PutCell [(.tmp 102)]⟩,
                              ⟨some 101, none, .mv (.tmp 103)⟩,
                              ⟨some 104, none, .ext (.tmp 101) 0⟩,
                              ⟨some 105, none, .ext (.tmp 101) 1⟩,
                              ⟨some 13, none, .mv (.tmp 104)⟩,
                              ⟨some 14, none, .mv (.tmp 105)⟩])
                            (.seq
                             (.seq
                              (.ops [
                                ⟨some 106, none, .mv (.tmp 14)⟩,
                                ⟨some 107, none, .bin .neq t_api_Errno (.tmp 106) (.const (.int .i64 0))⟩])
                              (.cond (.tmp 107)
                               (.seq
                                (.ops [
                                  ⟨some 108, none, .mv (.tmp 14)⟩,
                                  ⟨some 4, none, .mv (.const (.slice none 0 0))⟩,
                                  ⟨some 5, none, .mv (.tmp 108)⟩])
                                (.ret))
                               (.skip)))
                             (.ops [
                               ⟨some 109, none, .mv (.tmp 6)⟩,
                               ⟨some 110, none, .mv (.tmp 13)⟩,
                               ⟨some 111, none, .gen (.call ⟨.builtin .append, #[(.tmp 109), (.tmp 110)], #[t_S_uint8, t_S_uint8]⟩) t_S_uint8⟩,
                               ⟨some 6, none, .mv (.tmp 111)⟩])))))
                         (.ops [
                           ⟨some 112, none, .bin .add t_int (.tmp 97) (.const (.int .i64 1))⟩,
                           ⟨some 97, none, .mv (.tmp 112)⟩])))))))
                   (.ops [
                     ⟨some 113, none, .mv (.tmp 10)⟩,
                     ⟨some 114, none, .mv (.tmp 10)⟩,
                     ⟨some 9, none, .mv (.tmp 113)⟩,
                     ⟨some 8, none, .mv (.tmp 114)⟩])))))))
             (.ops [
               ⟨some 50, none, .mv (.tmp 9)⟩,
               ⟨some 51, none, .bin .add t_int (.tmp 50) (.const (.int .i64 1))⟩,
               ⟨some 9, none, .mv (.tmp 51)⟩]))))))
        (.seq
         (.ops [
           ⟨some 115, none, .mv (.tmp 6)⟩,
           ⟨some 4, none, .mv (.tmp 115)⟩,
           ⟨some 5, none, .mv (.const (.int .i64 0))⟩])
         (.ret))))))))),
 [.tmp 4, .tmp 5]⟩

/-- reg.Diff$1 -/
def a_reg_Diff_1 : AFn := ⟨14,
 (.seq
  (.ops [
    ⟨some 7, none, .mv (.tmp 0)⟩])
  (.cond (.tmp 7)
   (.ops [
     ⟨some 8, none, .load1 (.tmp 3)⟩,
     ⟨some 9, none, .mv (.tmp 1)⟩,
     ⟨some 10, none, .mv (.tmp 2)⟩,
     ⟨some 11, none, .gen (.build t_vint_Field #[(0, (.tmp 9)), (1, (.tmp 10))]) t_vint_Field⟩,
     ⟨some 12, none, .gen (.buildSlice t_S_vint_Field 1 #[(0, (.tmp 11))]) t_S_vint_Field⟩,
     ⟨some 13, none, .gen (.call ⟨.builtin .append, #[(.tmp 8), (.tmp 12)], #[t_S_vint_Field, t_S_vint_Field]⟩) t_S_vint_Field⟩,
     ⟨none, none, .store 1 (.tmp 3) (.tmp 13)⟩])
   (.skip))),
 []⟩

/-- (reg.State).clipping -/
def a_reg_State_clipping : AFn := ⟨8,
 (.seq
  (.ops [
    ⟨some 1, none, .box t_reg_State (.tmp 0)⟩,
    ⟨some 2, none, .new t_reg_clipping [(.string .empty), (.int .u64 0)]⟩])
  (.seq
   (.ops [
     ⟨some 3, none, .fld 7 (.tmp 1)⟩,
     ⟨some 4, none, .load1 (.tmp 3)⟩,
     ⟨some 5, none, .fld 8 (.tmp 1)⟩,
     ⟨some 6, none, .load1 (.tmp 5)⟩,
     ⟨some 7, none, .gen (.build t_reg_clipping #[(0, (.tmp 4)), (1, (.tmp 6))]) t_reg_clipping⟩,
     ⟨none, none, .store 2 (.tmp 2) (.tmp 7)⟩])
   (.ret))),
 [.cell 2 t_reg_clipping]⟩

/-- vint.PutFields -/
def a_vint_PutFields : AFn := ⟨44,
 (.seq
  (.ops [
    ⟨some 2, none, .mv (.const (.slice none 0 0))⟩,
    ⟨some 3, none, .mv (.const (.int .i64 0))⟩])
  (.seq
   (.seq
    (.ops [
      ⟨some 9, none, .mv (.tmp 0)⟩,
      ⟨some 10, none, .len (.tmp 9)⟩,
      ⟨some 11, none, .bin .gtr t_int (.tmp 10) (.const (.int .i64 128))⟩])
    (.cond (.tmp 11)
     (.seq
      (.ops [
        ⟨some 2, none, .mv (.const (.slice none 0 0))⟩,
        ⟨some 3, none, .mv (.const (.int .i64 5))⟩])
      (.ret))
     (.skip)))
   (.seq
    (.ops [
      ⟨some 4, none, .mv (.const (.slice none 0 0))⟩])
    (.seq
     (.seq
      (.ops [
        ⟨some 12, none, .mv (.tmp 0)⟩,
        ⟨some 13, none, .len (.tmp 12)⟩,
        ⟨some 14, none, .mv (.const (.int .i64 0))⟩])
      (.block 0
       (.loop
        (.seq
         (.ops [
           ⟨some 15, none, .bin .lss t_int (.tmp 14) (.tmp 13)⟩])
         (.seq
          (.cond (.tmp 15)
           (.skip)
           (.exit 0))
          (.seq
           (.block 1
            (.seq
             (.ops [
               ⟨some 16, none, .idxS 2 (.tmp 12) (.tmp 14)⟩,
               ⟨some 17, none, .loadN 2 (.tmp 16)⟩,
               ⟨some 6, none, .new t_vint_Field [(.int .u8 0), (.slice none 0 0)]⟩,
               ⟨none, none, .store 2 (.tmp 6) (.tmp 17)⟩])
             (.seq
              (.seq
               (.ops [
                 ⟨some 18, none, .fld 1 (.tmp 6)⟩,
                 ⟨some 19, none, .load1 (.tmp 18)⟩,
                 ⟨some 20, none, .len (.tmp 19)⟩,
                 ⟨some 21, none, .bin .gtr t_int (.tmp 20) (.const (.int .i64 16384))⟩])
               (.cond (.tmp 21)
                (.seq
                 (.ops [
                   ⟨some 2, none, .mv (.const (.slice none 0 0))⟩,
                   ⟨some 3, none, .mv (.const (.int .i64 2))⟩])
                 (.ret))
                (.skip)))
              (.seq
               (.ops [
                 ⟨some 23, none, .fld 1 (.tmp 6)⟩,
                 ⟨some 24, none, .load1 (.tmp 23)⟩,
                 ⟨some 25, none, .len (.tmp 24)⟩,
                 ⟨some 26, none, .gen (.convert t_int t_uint64 (.tmp 25)) t_uint64⟩,
                 ⟨some 27, none, .call n_vint_Put [(.tmp 26)]⟩,
                 ⟨some 22, none, .mv (.tmp 27)⟩,
                 ⟨some 28, none, .ext (.tmp 22) 0⟩,
                 ⟨some 29, none, .ext (.tmp 22) 1⟩,
                 ⟨some 7, none, .mv (.tmp 28)⟩,
                 ⟨some 8, none, .mv (.tmp 29)⟩])
               (.seq
                (.ops [
                  ⟨some 30, none, .mv (.tmp 4)⟩,
                  ⟨some 31, none, .fld 0 (.tmp 6)⟩,
                  ⟨some 32, none, .load1 (.tmp 31)⟩,
                  ⟨some 33, none, .gen (.buildSlice t_S_uint8 1 #[(0, (.tmp 32))]) t_S_uint8⟩,
                  ⟨some 34, none, .gen (.call ⟨.builtin .append, #[(.tmp 30), (.tmp 33)], #[t_S_uint8, t_S_uint8]⟩) t_S_uint8⟩,
                  ⟨some 4, none, .mv (.tmp 34)⟩])
                (.seq
                 (.ops [
                   ⟨some 35, none, .mv (.tmp 4)⟩,
                   ⟨some 36, none, .mv (.tmp 7)⟩,
                   ⟨some 37, none, .gen (.call ⟨.builtin .append, #[(.tmp 35), (.tmp 36)], #[t_S_uint8, t_S_uint8]⟩) t_S_uint8⟩,
                   ⟨some 4, none, .mv (.tmp 37)⟩])
                 (.ops [
                   ⟨some 38, none, .mv (.tmp 4)⟩,
                   ⟨some 39, none, .fld 1 (.tmp 6)⟩,
                   ⟨some 40, none, .load1 (.tmp 39)⟩,
                   ⟨some 41, none, .gen (.call ⟨.builtin .append, #[(.tmp 38), (.tmp 40)], #[t_S_uint8, t_S_uint8]⟩) t_S_uint8⟩,
                   ⟨some 4, none, .mv (.tmp 41)⟩])))))))
           (.ops [
             ⟨some 42, none, .bin .add t_int (.tmp 14) (.const (.int .i64 1))⟩,
             ⟨some 14, none, .mv (.tmp 42)⟩])))))))
     (.seq
      (.ops [
        ⟨some 43, none, .mv (.tmp 4)⟩,
        ⟨some 2, none, .mv (.tmp 43)⟩,
        ⟨some 3, none, .mv (.const (.int .i64 0))⟩])
      (.ret)))))),
 [.tmp 2, .tmp 3]⟩

/-- vint.Fields -/
def a_vint_Fields : AFn := ⟨59,
 (.seq
  (.ops [
    ⟨some 2, none, .mv (.const (.slice none 0 0))⟩,
    ⟨some 3, none, .mv (.const (.int .i64 0))⟩])
  (.seq
   (.ops [
     ⟨some 4, none, .mv (.const (.slice none 0 0))⟩])
   (.seq
    (.ops [
      ⟨some 5, none, .mv (.const (.int .i64 0))⟩])
    (.seq
     (.block 0
      (.loop
       (.seq
        (.seq
         (.ops [
           ⟨some 10, none, .mv (.tmp 5)⟩,
           ⟨some 11, none, .mv (.tmp 0)⟩,
           ⟨some 12, none, .len (.tmp 11)⟩,
           ⟨some 13, none, .bin .lss t_int (.tmp 10) (.tmp 12)⟩])
         (.cond (.tmp 13)
          (.skip)
          (.exit 0)))
        (.block 1
         (.seq
          (.seq
           (.ops [
             ⟨some 14, none, .mv (.tmp 4)⟩,
             ⟨some 15, none, .len (.tmp 14)⟩,
             ⟨some 16, none, .bin .eql t_int (.tmp 15) (.const (.int .i64 128))⟩])
           (.cond (.tmp 16)
            (.seq
             (.ops [
               ⟨some 2, none, .mv (.const (.slice none 0 0))⟩,
               ⟨some 3, none, .mv (.const (.int .i64 5))⟩])
             (.ret))
            (.skip)))
          (.seq
           (.ops [
             ⟨some 18, none, .mv (.tmp 0)⟩,
             ⟨some 19, none, .mv (.tmp 5)⟩,
             ⟨some 20, none, .bin .add t_int (.tmp 19) (.const (.int .i64 1))⟩,
             ⟨some 21, none, .call n_vint_Get [(.tmp 18), (.tmp 20)]⟩,
             ⟨some 17, none, .mv (.tmp 21)⟩,
             ⟨some 22, none, .ext (.tmp 17) 0⟩,
             ⟨some 23, none, .ext (.tmp 17) 1⟩,
             ⟨some 24, none, .ext (.tmp 17) 2⟩,
             ⟨some 6, none, .mv (.tmp 22)⟩,
             ⟨some 7, none, .mv (.tmp 23)⟩,
             ⟨some 8, none, .mv (.tmp 24)⟩])
           (.seq
            (.block 2
             (.seq
              (.ops [
                ⟨some 26, none, .mv (.tmp 8)⟩,
                ⟨some 27, none, .bin .neq t_api_Errno (.tmp 26) (.const (.int .i64 0))⟩,
                ⟨some 25, none, .mv (.tmp 27)⟩])
              (.cond (.tmp 25)
               (.seq
                (.ops [
                  ⟨some 28, none, .mv (.tmp 8)⟩,
                  ⟨some 2, none, .mv (.const (.slice none 0 0))⟩,
                  ⟨some 3, none, .mv (.tmp 28)⟩])
                (.ret))
               (.seq
                (.ops [
                  ⟨some 30, none, .mv (.tmp 6)⟩,
                  ⟨some 31, none, .bin .gtr t_uint64 (.tmp 30) (.const (.int .u64 16384))⟩,
                  ⟨some 29, none, .mv (.tmp 31)⟩])
                (.cond (.tmp 29)
                 (.seq
                  (.ops [
                    ⟨some 2, none, .mv (.const (.slice none 0 0))⟩,
                    ⟨some 3, none, .mv (.const (.int .i64 2))⟩])
                  (.ret))
                 (.seq
                  (.ops [
                    ⟨some 33, none, .mv (.tmp 6)⟩,
                    ⟨some 34, none, .mv (.tmp 0)⟩,
                    ⟨some 35, none, .len (.tmp 34)⟩,
                    ⟨some 36, none, .mv (.tmp 7)⟩,
                    ⟨some 37, none, .bin .sub t_int (.tmp 35) (.tmp 36)⟩,
                    ⟨some 38, none, .gen (.convert t_int t_uint64 (.tmp 37)) t_uint64⟩,
                    ⟨some 39, none, .bin .gtr t_uint64 (.tmp 33) (.tmp 38)⟩,
                    ⟨some 32, none, .mv (.tmp 39)⟩])
                  (.cond (.tmp 32)
                   (.seq
                    (.ops [
                      ⟨some 2, none, .mv (.const (.slice none 0 0))⟩,
                      ⟨some 3, none, .mv (.const (.int .i64 10))⟩])
                    (.ret))
                   (.skip))))))))
            (.seq
             (.ops [
               ⟨some 40, none, .mv (.tmp 7)⟩,
               ⟨some 41, none, .mv (.tmp 6)⟩,
               ⟨some 42, none, .gen (.convert t_uint64 t_int (.tmp 41)) t_int⟩,
               ⟨some 43, none, .bin .add t_int (.tmp 40) (.tmp 42)⟩,
               ⟨some 9, none, .mv (.tmp 43)⟩])
             (.seq
              (.plan [
                (⟨some 44, none, .mv (.tmp 4)⟩, []),
                (⟨some 45, none, .mv (.tmp 0)⟩, []),
                (⟨some 46, none, .mv (.tmp 5)⟩, []),
                (⟨some 47, none, .idxS 1 (.tmp 45) (.tmp 46)⟩, []),
                (⟨some 48, none, .load1 (.tmp 47)⟩, []),
                (⟨some 49, none, .mv (.tmp 0)⟩, []),
                (⟨some 50, none, .mv (.tmp 7)⟩, []),
                (⟨some 51, none, .mv (.tmp 9)⟩, []),
                (⟨some 52, none, .gen (.slice t_S_uint8 (.tmp 49) (some (.tmp 50)) (some (.tmp 51)) none) t_S_uint8⟩, []),
                (⟨some 53, none, .call n_slices_Clone_byte_byte [(.tmp 52)]⟩, [⟨some 48, none, .load1 (.tmp 47)⟩]),
                (⟨some 54, none, .gen (.build t_vint_Field #[(0, (.tmp 48)), (1, (.tmp 53))]) t_vint_Field⟩, []),
                (⟨some 55, none, .gen (.buildSlice t_S_vint_Field 1 #[(0, (.tmp 54))]) t_S_vint_Field⟩, []),
                (⟨some 56, none, .gen (.call ⟨.builtin .append, #[(.tmp 44), (.tmp 55)], #[t_S_vint_Field, t_S_vint_Field]⟩) t_S_vint_Field⟩, []),
                (⟨some 4, none, .mv (.tmp 56)⟩, [])])
              (.ops [
                ⟨some 57, none, .mv (.tmp 9)⟩,
                ⟨some 5, none, .mv (.tmp 57)⟩]))))))))))
     (.seq
      (.ops [
        ⟨some 58, none, .mv (.tmp 4)⟩,
        ⟨some 2, none, .mv (.tmp 58)⟩,
        ⟨some 3, none, .mv (.const (.int .i64 0))⟩])
      (.ret)))))),
 [.tmp 2, .tmp 3]⟩

/-- vint.Find -/
def a_vint_Find : AFn := ⟨18,
 (.seq
  (.ops [
    ⟨some 3, none, .box t_uint8 (.tmp 1)⟩,
    ⟨some 4, none, .mv (.const (.slice none 0 0))⟩,
    ⟨some 5, none, .mv (.const (.bool false))⟩])
  (.seq
   (.ops [
     ⟨some 7, none, .mv (.tmp 0)⟩,
     ⟨some 8, none, .gen (.makeFunc (.func n_vint_Find_1) #[] #[(.tmp 3)]) t_func_vint_Field_bool⟩,
     ⟨some 9, none, .call n_slices_IndexFunc_vint_Field_vint_Field [(.tmp 7), (.tmp 8)]⟩,
     ⟨some 6, none, .mv (.tmp 9)⟩])
   (.seq
    (.seq
     (.ops [
       ⟨some 10, none, .mv (.tmp 6)⟩,
       ⟨some 11, none, .bin .lss t_int (.tmp 10) (.const (.int .i64 0))⟩])
     (.cond (.tmp 11)
      (.seq
       (.ops [
         ⟨some 4, none, .mv (.const (.slice none 0 0))⟩,
         ⟨some 5, none, .mv (.const (.bool false))⟩])
       (.ret))
      (.skip)))
    (.seq
     (.ops [
       ⟨some 12, none, .mv (.tmp 0)⟩,
       ⟨some 13, none, .mv (.tmp 6)⟩,
       ⟨some 14, none, .idxS 2 (.tmp 12) (.tmp 13)⟩,
       ⟨some 15, none, .fld 1 (.tmp 14)⟩,
       ⟨some 16, none, .load1 (.tmp 15)⟩,
       ⟨some 17, none, .call n_slices_Clone_byte_byte [(.tmp 16)]⟩,
       ⟨some 4, none, .mv (.tmp 17)⟩,
       ⟨some 5, none, .mv (.const (.bool true))⟩])
     (.ret))))),
 [.tmp 4, .tmp 5]⟩

/-- patch.Apply -/
def a_patch_Apply : AFn := ⟨120,
 (.seq
  (.ops [
    ⟨some 2, none, .box t_view_View (.tmp 0)⟩,
    ⟨some 4, none, .new t_view_View [(.int .i64 0), (.int .i64 0), (.slice none 0 0), (.int .i64 0), (.int .i64 0), (.bool false)]⟩,
    ⟨some 5, none, .mv (.const (.int .i64 0))⟩])
  (.seq
   (.ops [
     ⟨some 15, none, .mv (.tmp 1)⟩,
     ⟨some 16, none, .call n_patch_runs [(.tmp 15)]⟩,
     ⟨some 14, none, .mv (.tmp 16)⟩,
     ⟨some 17, none, .ext (.tmp 14) 0⟩,
     ⟨some 18, none, .ext (.tmp 14) 1⟩,
     ⟨some 6, none, .mv (.tmp 17)⟩,
     ⟨some 7, none, .mv (.tmp 18)⟩])
   (.seq
    (.seq
     (.ops [
       ⟨some 19, none, .mv (.tmp 7)⟩,
       ⟨some 20, none, .not (.tmp 19)⟩,
       ⟨some 21, none, .mv (.tmp 20)⟩,
       ⟨some 22, some (21, false), .loadN 6 (.tmp 2)⟩,
       ⟨some 23, some (21, false), .call n_view_Right [(.tmp 22)]⟩,
       ⟨some 24, some (21, false), .not (.tmp 23)⟩,
       ⟨some 25, none, .pick (.tmp 21) (.const (.bool true)) (.tmp 24)⟩])
     (.cond (.tmp 25)
      (.seq
       (.ops [
         ⟨some 26, none, .gen (.build t_view_View #[]) t_view_View⟩,
         ⟨none, none, .store 6 (.tmp 4) (.tmp 26)⟩,
         ⟨some 5, none, .mv (.const (.int .i64 3))⟩])
       (.ret))
      (.skip)))
    (.seq
     (.plan [
       (⟨some 27, none, .mv (.tmp 1)⟩, []),
       (⟨some 28, none, .idxS 1 (.tmp 27) (.const (.int .i64 0))⟩, []),
       (⟨some 29, none, .load1 (.tmp 28)⟩, []),
       (⟨some 30, none, .gen (.convert t_uint8 t_int (.tmp 29)) t_int⟩, []),
       (⟨some 31, none, .mv (.tmp 1)⟩, []),
       (⟨some 32, none, .idxS 1 (.tmp 31) (.const (.int .i64 1))⟩, []),
       (⟨some 33, none, .load1 (.tmp 32)⟩, []),
       (⟨some 34, none, .gen (.convert t_uint8 t_int (.tmp 33)) t_int⟩, []),
       (⟨some 35, none, .mv (.tmp 1)⟩, []),
       (⟨some 36, none, .idxS 1 (.tmp 35) (.const (.int .i64 2))⟩, []),
       (⟨some 37, none, .load1 (.tmp 36)⟩, []),
       (⟨some 38, none, .gen (.convert t_uint8 t_int (.tmp 37)) t_int⟩, []),
       (⟨some 39, none, .mv (.tmp 1)⟩, []),
       (⟨some 40, none, .idxS 1 (.tmp 39) (.const (.int .i64 3))⟩, []),
       (⟨some 41, none, .load1 (.tmp 40)⟩, []),
       (⟨some 42, none, .gen (.convert t_uint8 t_int (.tmp 41)) t_int⟩, []),
       (⟨some 43, none, .mv (.tmp 1)⟩, []),
       (⟨some 44, none, .idxS 1 (.tmp 43) (.const (.int .i64 4))⟩, []),
       (⟨some 45, none, .load1 (.tmp 44)⟩, []),
       (⟨some 46, none, .bin .eql t_uint8 (.tmp 45) (.const (.int .u8 1))⟩, []),
       (⟨some 47, none, .gen (.build t_view_View #[(0, (.tmp 30)), (1, (.tmp 34)), (3, (.tmp 38)), (4, (.tmp 42)), (5, (.tmp 46))]) t_view_View⟩, []),
       (⟨some 8, none, .new t_view_View [(.int .i64 0), (.int .i64 0), (.slice none 0 0), (.int .i64 0), (.int .i64 0), (.bool false)]⟩, [⟨some 29, none, .load1 (.tmp 28)⟩, ⟨some 33, none, .load1 (.tmp 32)⟩, ⟨some 37, none, .load1 (.tmp 36)⟩, ⟨some 41, none, .load1 (.tmp 40)⟩, ⟨some 45, none, .load1 (.tmp 44)⟩, ⟨some 46, none, .bin .eql t_uint8 (.tmp 45) (.const (.int .u8 1))⟩]),
       (⟨none, none, .store 6 (.tmp 8) (.tmp 47)⟩, [])])
     (.seq
      (.seq
       (.ops [
         ⟨some 48, none, .fld 0 (.tmp 8)⟩,
         ⟨some 49, none, .load1 (.tmp 48)⟩,
         ⟨some 50, none, .bin .gtr t_int (.tmp 49) (.const (.int .i64 12))⟩,
         ⟨some 51, none, .mv (.tmp 50)⟩,
         ⟨some 52, some (51, false), .fld 1 (.tmp 8)⟩,
         ⟨some 53, some (51, false), .load1 (.tmp 52)⟩,
         ⟨some 54, some (51, false), .bin .gtr t_int (.tmp 53) (.const (.int .i64 40))⟩,
         ⟨some 55, none, .pick (.tmp 51) (.const (.bool true)) (.tmp 54)⟩])
       (.cond (.tmp 55)
        (.seq
         (.ops [
           ⟨some 56, none, .gen (.build t_view_View #[]) t_view_View⟩,
           ⟨none, none, .store 6 (.tmp 4) (.tmp 56)⟩,
           ⟨some 5, none, .mv (.const (.int .i64 3))⟩])
         (.ret))
        (.skip)))
      (.seq
       (.ops [
         ⟨some 57, none, .loadN 6 (.tmp 2)⟩,
         ⟨some 58, none, .fld 0 (.tmp 8)⟩,
         ⟨some 59, none, .load1 (.tmp 58)⟩,
         ⟨some 60, none, .fld 1 (.tmp 8)⟩,
         ⟨some 61, none, .load1 (.tmp 60)⟩,
         ⟨some 62, none, .call n_patch_base [(.tmp 57), (.tmp 59), (.tmp 61)]⟩,
         ⟨some 63, none, .fld 2 (.tmp 8)⟩,
         ⟨none, none, .store 1 (.tmp 63) (.tmp 62)⟩])
       (.seq
        (.ops [
          ⟨some 9, none, .mv (.const (.int .i64 0))⟩])
        (.seq
         (.skip)
         (.seq
          (.seq
           (.ops [
             ⟨some 64, none, .mv (.tmp 6)⟩,
             ⟨some 65, none, .len (.tmp 64)⟩,
             ⟨some 66, none, .mv (.const (.int .i64 0))⟩])
           (.block 0
            (.loop
             (.seq
              (.ops [
                ⟨some 67, none, .bin .lss t_int (.tmp 66) (.tmp 65)⟩])
              (.seq
               (.cond (.tmp 67)
                (.skip)
                (.exit 0))
               (.seq
                (.block 1
                 (.seq
                  (.ops [
                    ⟨some 68, none, .idxS 2 (.tmp 64) (.tmp 66)⟩,
                    ⟨some 69, none, .loadN 2 (.tmp 68)⟩,
                    ⟨some 11, none, .new t_patch_run [(.int .i64 0), (.slice none 0 0)]⟩,
                    ⟨none, none, .store 2 (.tmp 11) (.tmp 69)⟩])
                  (.seq
                   (.ops [
                     ⟨some 70, none, .mv (.tmp 9)⟩,
                     ⟨some 71, none, .fld 0 (.tmp 11)⟩,
                     ⟨some 72, none, .load1 (.tmp 71)⟩,
                     ⟨some 73, none, .bin .add t_int (.tmp 70) (.tmp 72)⟩,
                     ⟨some 9, none, .mv (.tmp 73)⟩])
                   (.seq
                    (.seq
                     (.ops [
                       ⟨some 74, none, .mv (.tmp 9)⟩,
                       ⟨some 75, none, .fld 2 (.tmp 8)⟩,
                       ⟨some 76, none, .load1 (.tmp 75)⟩,
                       ⟨some 77, none, .len (.tmp 76)⟩,
                       ⟨some 78, none, .bin .gtr t_int (.tmp 74) (.tmp 77)⟩,
                       ⟨some 79, none, .mv (.tmp 78)⟩,
                       ⟨some 80, some (79, false), .fld 1 (.tmp 11)⟩,
                       ⟨some 81, some (79, false), .load1 (.tmp 80)⟩,
                       ⟨some 82, some (79, false), .len (.tmp 81)⟩,
                       ⟨some 83, some (79, false), .fld 2 (.tmp 8)⟩,
                       ⟨some 84, some (79, false), .load1 (.tmp 83)⟩,
                       ⟨some 85, some (79, false), .len (.tmp 84)⟩,
                       ⟨some 86, some (79, false), .mv (.tmp 9)⟩,
                       ⟨some 87, some (79, false), .bin .sub t_int (.tmp 85) (.tmp 86)⟩,
                       ⟨some 88, some (79, false), .bin .gtr t_int (.tmp 82) (.tmp 87)⟩,
                       ⟨some 89, none, .pick (.tmp 79) (.const (.bool true)) (.tmp 88)⟩])
                     (.cond (.tmp 89)
                      (.seq
                       (.ops [
                         ⟨some 90, none, .fld 2 (.tmp 8)⟩,
                         ⟨none, none, .store 1 (.tmp 90) (.const (.slice none 0 0))⟩])
                       (.exit 0))
                      (.skip)))
                    (.seq
                     (.plan [
                       (⟨some 91, none, .fld 2 (.tmp 8)⟩, []),
                       (⟨some 92, none, .load1 (.tmp 91)⟩, []),
                       (⟨some 93, none, .mv (.tmp 9)⟩, []),
                       (⟨some 94, none, .gen (.slice t_S_grid_Cell (.tmp 92) (some (.tmp 93)) none none) t_S_grid_Cell⟩, []),
                       (⟨some 95, none, .fld 1 (.tmp 11)⟩, []),
                       (⟨some 96, none, .load1 (.tmp 95)⟩, []),
                       (⟨some 97, none, .gen (.call ⟨.builtin .copy, #[(.tmp 94), (.tmp 96)], #[t_S_grid_Cell, t_S_grid_Cell]⟩) t_int⟩, [])])
                     (.ops [
                       ⟨some 98, none, .mv (.tmp 9)⟩,
                       ⟨some 99, none, .fld 1 (.tmp 11)⟩,
                       ⟨some 100, none, .load1 (.tmp 99)⟩,
                       ⟨some 101, none, .len (.tmp 100)⟩,
                       ⟨some 102, none, .bin .add t_int (.tmp 98) (.tmp 101)⟩,
                       ⟨some 9, none, .mv (.tmp 102)⟩]))))))
                (.ops [
                  ⟨some 103, none, .bin .add t_int (.tmp 66) (.const (.int .i64 1))⟩,
                  ⟨some 66, none, .mv (.tmp 103)⟩])))))))
          (.seq
           (.seq
            (.ops [
              ⟨some 105, none, .loadN 6 (.tmp 2)⟩,
              ⟨some 106, none, .loadN 6 (.tmp 8)⟩,
              ⟨some 107, none, .call n_patch_Diff [(.tmp 105), (.tmp 106)]⟩,
              ⟨some 104, none, .mv (.tmp 107)⟩,
              ⟨some 108, none, .ext (.tmp 104) 0⟩,
              ⟨some 109, none, .ext (.tmp 104) 1⟩,
              ⟨some 12, none, .mv (.tmp 108)⟩,
              ⟨some 13, none, .mv (.tmp 109)⟩])
            (.seq
             (.ops [
               ⟨some 110, none, .mv (.tmp 13)⟩,
               ⟨some 111, none, .bin .neq t_api_Errno (.tmp 110) (.const (.int .i64 0))⟩,
               ⟨some 112, none, .mv (.tmp 111)⟩,
               ⟨some 113, some (112, false), .mv (.tmp 12)⟩,
               ⟨some 114, some (112, false), .mv (.tmp 1)⟩,
               ⟨some 115, some (112, false), .call n_bytes_Equal [(.tmp 113), (.tmp 114)]⟩,
               ⟨some 116, some (112, false), .not (.tmp 115)⟩,
               ⟨some 117, none, .pick (.tmp 112) (.const (.bool true)) (.tmp 116)⟩])
             (.cond (.tmp 117)
              (.seq
               (.ops [
                 ⟨some 118, none, .gen (.build t_view_View #[]) t_view_View⟩,
                 ⟨none, none, .store 6 (.tmp 4) (.tmp 118)⟩,
                 ⟨some 5, none, .mv (.const (.int .i64 3))⟩])
               (.ret))
              (.skip))))
           (.seq
            (.ops [
              ⟨some 119, none, .loadN 6 (.tmp 8)⟩,
              ⟨none, none, .store 6 (.tmp 4) (.tmp 119)⟩,
              ⟨some 5, none, .mv (.const (.int .i64 0))⟩])
            (.ret)))))))))))),
 [.cell 4 t_view_View, .tmp 5]⟩

/-- (*grid.Grid).made -/
def a_grid_Grid_made : AFn := ⟨13,
 (.seq
  (.ops [
    ⟨some 2, none, .mv (.const (.bool false))⟩])
  (.seq
   (.ops [
     ⟨some 3, none, .mv (.tmp 0)⟩,
     ⟨some 4, none, .bin .neq t_P_grid_Grid (.tmp 3) (.const (.pointer none))⟩,
     ⟨some 5, none, .mv (.tmp 4)⟩,
     ⟨some 6, some (5, true), .mv (.tmp 0)⟩,
     ⟨some 7, some (5, true), .nil (.tmp 6)⟩,
     ⟨some 8, some (5, true), .fld 1 (.tmp 7)⟩,
     ⟨some 9, some (5, true), .load1 (.tmp 8)⟩,
     ⟨some 10, some (5, true), .len (.tmp 9)⟩,
     ⟨some 11, some (5, true), .bin .gtr t_int (.tmp 10) (.const (.int .i64 0))⟩,
     ⟨some 12, none, .pick (.tmp 5) (.tmp 11) (.const (.bool false))⟩,
     ⟨some 2, none, .mv (.tmp 12)⟩])
   (.ret))),
 [.tmp 2]⟩

/-- longlineref13.Is -/
def a_ref13_Is : AFn := ⟨17,
 (.seq
  (.ops [
    ⟨some 2, none, .mv (.const (.bool false))⟩])
  (.seq
   (.ops [
     ⟨some 3, none, .mv (.tmp 0)⟩,
     ⟨some 4, none, .bin .geq t_int32 (.tmp 3) (.const (.int .i32 0))⟩,
     ⟨some 5, none, .mv (.tmp 4)⟩,
     ⟨some 6, some (5, true), .mv (.tmp 0)⟩,
     ⟨some 7, some (5, true), .bin .lss t_int32 (.tmp 6) (.const (.int .i32 55296))⟩,
     ⟨some 8, none, .pick (.tmp 5) (.tmp 7) (.const (.bool false))⟩,
     ⟨some 9, none, .mv (.tmp 8)⟩,
     ⟨some 10, some (9, false), .mv (.tmp 0)⟩,
     ⟨some 11, some (9, false), .bin .gtr t_int32 (.tmp 10) (.const (.int .i32 57343))⟩,
     ⟨some 12, some (9, false), .mv (.tmp 11)⟩,
     ⟨some 13, some (12, true), .mv (.tmp 0)⟩,
     ⟨some 14, some (12, true), .bin .lss t_int32 (.tmp 13) (.const (.int .i32 1114112))⟩,
     ⟨some 15, some (9, false), .pick (.tmp 12) (.tmp 14) (.const (.bool false))⟩,
     ⟨some 16, none, .pick (.tmp 9) (.const (.bool true)) (.tmp 15)⟩,
     ⟨some 2, none, .mv (.tmp 16)⟩])
   (.ret))),
 [.tmp 2]⟩

/-- longlineref16.Right -/
def a_ref16_Right : AFn := ⟨11,
 (.seq
  (.ops [
    ⟨some 1, none, .box t_longlineref16_Style (.tmp 0)⟩,
    ⟨some 2, none, .mv (.const (.bool false))⟩])
  (.seq
   (.ops [
     ⟨some 3, none, .fld 8 (.tmp 1)⟩,
     ⟨some 4, none, .load1 (.tmp 3)⟩,
     ⟨some 5, none, .call n_ref16_isColour [(.tmp 4)]⟩,
     ⟨some 6, none, .mv (.tmp 5)⟩,
     ⟨some 7, some (6, true), .fld 9 (.tmp 1)⟩,
     ⟨some 8, some (6, true), .load1 (.tmp 7)⟩,
     ⟨some 9, some (6, true), .call n_ref16_isColour [(.tmp 8)]⟩,
     ⟨some 10, none, .pick (.tmp 6) (.tmp 9) (.const (.bool false))⟩,
     ⟨some 2, none, .mv (.tmp 10)⟩])
   (.ret))),
 [.tmp 2]⟩

/-- (*ansi.Parser).enter -/
def a_ansi_Parser_enter : AFn := ⟨24,
 (.ops [
   ⟨some 4, none, .mv (.tmp 0)⟩,
   ⟨some 5, none, .mv (.tmp 0)⟩,
   ⟨some 6, none, .mv (.tmp 0)⟩,
   ⟨some 7, none, .mv (.tmp 0)⟩,
   ⟨some 8, none, .mv (.tmp 0)⟩,
   ⟨some 9, none, .mv (.tmp 0)⟩,
   ⟨some 10, none, .mv (.tmp 1)⟩,
   ⟨some 11, none, .gen (.build t_ansi_Event #[]) t_ansi_Event⟩,
   ⟨some 12, none, .nil (.tmp 4)⟩,
   ⟨some 13, none, .fld 1 (.tmp 12)⟩,
   ⟨none, none, .store 1 (.tmp 13) (.tmp 10)⟩,
   ⟨some 14, none, .nil (.tmp 5)⟩,
   ⟨some 15, none, .fld 2 (.tmp 14)⟩,
   ⟨none, none, .store 7 (.tmp 15) (.tmp 11)⟩,
   ⟨some 16, none, .nil (.tmp 6)⟩,
   ⟨some 17, none, .fld 9 (.tmp 16)⟩,
   ⟨none, none, .store 1 (.tmp 17) (.const (.bool false))⟩,
   ⟨some 18, none, .nil (.tmp 7)⟩,
   ⟨some 19, none, .fld 10 (.tmp 18)⟩,
   ⟨none, none, .store 1 (.tmp 19) (.const (.bool false))⟩,
   ⟨some 20, none, .nil (.tmp 8)⟩,
   ⟨some 21, none, .fld 11 (.tmp 20)⟩,
   ⟨none, none, .store 1 (.tmp 21) (.const (.bool false))⟩,
   ⟨some 22, none, .nil (.tmp 9)⟩,
   ⟨some 23, none, .fld 12 (.tmp 22)⟩,
   ⟨none, none, .store 1 (.tmp 23) (.const (.slice none 0 0))⟩]),
 []⟩

/-- (*ansi.Parser).operating -/
def a_ansi_Parser_operating : AFn := ⟨59,
 (.block 0
  (.seq
   (.ops [
     ⟨some 8, none, .mv (.tmp 1)⟩,
     ⟨some 9, none, .bin .eql t_int32 (.tmp 8) (.const (.int .i32 7))⟩,
     ⟨some 7, none, .mv (.tmp 9)⟩])
   (.cond (.tmp 7)
    (.ops [
      ⟨some 10, none, .mv (.tmp 0)⟩,
      ⟨some 11, none, .call n_ansi_Parser_tell [(.tmp 10)]⟩])
    (.seq
     (.ops [
       ⟨some 13, none, .mv (.tmp 1)⟩,
       ⟨some 14, none, .bin .eql t_int32 (.tmp 13) (.const (.int .i32 27))⟩,
       ⟨some 12, none, .mv (.tmp 14)⟩])
     (.cond (.tmp 12)
      (.ops [
        ⟨some 15, none, .mv (.tmp 0)⟩,
        ⟨some 16, none, .nil (.tmp 15)⟩,
        ⟨some 17, none, .fld 11 (.tmp 16)⟩,
        ⟨none, none, .store 1 (.tmp 17) (.const (.bool true))⟩])
      (.seq
       (.ops [
         ⟨some 19, none, .mv (.tmp 1)⟩,
         ⟨some 20, none, .bin .lss t_int32 (.tmp 19) (.const (.int .i32 32))⟩,
         ⟨some 18, none, .mv (.tmp 20)⟩])
       (.cond (.tmp 18)
        (.skip)
        (.seq
         (.ops [
           ⟨some 22, none, .mv (.tmp 0)⟩,
           ⟨some 23, none, .nil (.tmp 22)⟩,
           ⟨some 24, none, .fld 11 (.tmp 23)⟩,
           ⟨some 25, none, .load1 (.tmp 24)⟩,
           ⟨some 26, none, .mv (.tmp 25)⟩,
           ⟨some 27, some (26, true), .mv (.tmp 1)⟩,
           ⟨some 28, some (26, true), .bin .eql t_int32 (.tmp 27) (.const (.int .i32 92))⟩,
           ⟨some 29, none, .pick (.tmp 26) (.tmp 28) (.const (.bool false))⟩,
           ⟨some 21, none, .mv (.tmp 29)⟩])
         (.cond (.tmp 21)
          (.ops [
            ⟨some 30, none, .mv (.tmp 0)⟩,
            ⟨some 31, none, .call n_ansi_Parser_tell [(.tmp 30)]⟩])
          (.seq
           (.ops [
             ⟨some 33, none, .mv (.tmp 0)⟩,
             ⟨some 34, none, .nil (.tmp 33)⟩,
             ⟨some 35, none, .fld 11 (.tmp 34)⟩,
             ⟨some 36, none, .load1 (.tmp 35)⟩,
             ⟨some 32, none, .mv (.tmp 36)⟩])
           (.cond (.tmp 32)
            (.seq
             (.ops [
               ⟨some 37, none, .mv (.tmp 0)⟩,
               ⟨some 38, none, .call n_ansi_Parser_enter [(.tmp 37), (.const (.int .i64 1))]⟩])
             (.ops [
               ⟨some 39, none, .mv (.tmp 0)⟩,
               ⟨some 40, none, .mv (.tmp 1)⟩,
               ⟨some 41, none, .call n_ansi_Parser_take [(.tmp 39), (.tmp 40)]⟩]))
            (.seq
             (.ops [
               ⟨some 43, none, .mv (.tmp 0)⟩,
               ⟨some 44, none, .nil (.tmp 43)⟩,
               ⟨some 45, none, .fld 12 (.tmp 44)⟩,
               ⟨some 46, none, .load1 (.tmp 45)⟩,
               ⟨some 47, none, .len (.tmp 46)⟩,
               ⟨some 48, none, .bin .lss t_int (.tmp 47) (.const (.int .i64 600))⟩,
               ⟨some 42, none, .mv (.tmp 48)⟩])
             (.cond (.tmp 42)
              (.ops [
                ⟨some 49, none, .mv (.tmp 0)⟩,
                ⟨some 50, none, .mv (.tmp 0)⟩,
                ⟨some 51, none, .nil (.tmp 50)⟩,
                ⟨some 52, none, .fld 12 (.tmp 51)⟩,
                ⟨some 53, none, .load1 (.tmp 52)⟩,
                ⟨some 54, none, .mv (.tmp 1)⟩,
                ⟨some 55, none, .gen (.buildSlice t_S_int32 1 #[(0, (.tmp 54))]) t_S_int32⟩,
                ⟨some 56, none, .gen (.call ⟨.builtin .append, #[(.tmp 53), (.tmp 55)], #[t_S_int32, t_S_int32]⟩) t_S_int32⟩,
                ⟨some 57, none, .nil (.tmp 49)⟩,
                ⟨some 58, none, .fld 12 (.tmp 57)⟩,
                ⟨none, none, .store 1 (.tmp 58) (.tmp 56)⟩])
              (.ops [
                ⟨some 4, none, .mv (.tmp 0)⟩,
                ⟨some 5, none, .nil (.tmp 4)⟩,
                ⟨some 6, none, .fld 10 (.tmp 5)⟩,
                ⟨none, none, .store 1 (.tmp 6) (.const (.bool true))⟩])))))))))))))),
 []⟩

/-- (*ansi.Parser).escaped -/
def a_ansi_Parser_escaped : AFn := ⟨53,
 (.block 0
  (.seq
   (.ops [
     ⟨some 8, none, .mv (.tmp 1)⟩,
     ⟨some 9, none, .bin .lss t_uint8 (.tmp 8) (.const (.int .u8 48))⟩,
     ⟨some 7, none, .mv (.tmp 9)⟩])
   (.cond (.tmp 7)
    (.ops [
      ⟨some 10, none, .mv (.tmp 0)⟩,
      ⟨some 11, none, .mv (.tmp 1)⟩,
      ⟨some 12, none, .call n_ansi_Parser_inter [(.tmp 10), (.tmp 11)]⟩])
    (.seq
     (.ops [
       ⟨some 14, none, .mv (.tmp 1)⟩,
       ⟨some 15, none, .bin .eql t_uint8 (.tmp 14) (.const (.int .u8 91))⟩,
       ⟨some 16, none, .mv (.tmp 15)⟩,
       ⟨some 17, some (16, true), .mv (.tmp 0)⟩,
       ⟨some 18, some (16, true), .nil (.tmp 17)⟩,
       ⟨some 19, some (16, true), .fld 2 (.tmp 18)⟩,
       ⟨some 20, some (16, true), .fld 3 (.tmp 19)⟩,
       ⟨some 21, some (16, true), .load1 (.tmp 20)⟩,
       ⟨some 22, some (16, true), .bin .eql t_uint8 (.tmp 21) (.const (.int .u8 0))⟩,
       ⟨some 23, none, .pick (.tmp 16) (.tmp 22) (.const (.bool false))⟩,
       ⟨some 24, none, .mv (.tmp 23)⟩,
       ⟨some 25, some (24, true), .mv (.tmp 0)⟩,
       ⟨some 26, some (24, true), .nil (.tmp 25)⟩,
       ⟨some 27, some (24, true), .fld 10 (.tmp 26)⟩,
       ⟨some 28, some (24, true), .load1 (.tmp 27)⟩,
       ⟨some 29, some (24, true), .not (.tmp 28)⟩,
       ⟨some 30, none, .pick (.tmp 24) (.tmp 29) (.const (.bool false))⟩,
       ⟨some 13, none, .mv (.tmp 30)⟩])
     (.cond (.tmp 13)
      (.ops [
        ⟨some 31, none, .mv (.tmp 0)⟩,
        ⟨some 32, none, .call n_ansi_Parser_enter [(.tmp 31), (.const (.int .i64 2))]⟩])
      (.seq
       (.ops [
         ⟨some 34, none, .mv (.tmp 1)⟩,
         ⟨some 35, none, .bin .eql t_uint8 (.tmp 34) (.const (.int .u8 93))⟩,
         ⟨some 36, none, .mv (.tmp 35)⟩,
         ⟨some 37, some (36, true), .mv (.tmp 0)⟩,
         ⟨some 38, some (36, true), .nil (.tmp 37)⟩,
         ⟨some 39, some (36, true), .fld 2 (.tmp 38)⟩,
         ⟨some 40, some (36, true), .fld 3 (.tmp 39)⟩,
         ⟨some 41, some (36, true), .load1 (.tmp 40)⟩,
         ⟨some 42, some (36, true), .bin .eql t_uint8 (.tmp 41) (.const (.int .u8 0))⟩,
         ⟨some 43, none, .pick (.tmp 36) (.tmp 42) (.const (.bool false))⟩,
         ⟨some 44, none, .mv (.tmp 43)⟩,
         ⟨some 45, some (44, true), .mv (.tmp 0)⟩,
         ⟨some 46, some (44, true), .nil (.tmp 45)⟩,
         ⟨some 47, some (44, true), .fld 10 (.tmp 46)⟩,
         ⟨some 48, some (44, true), .load1 (.tmp 47)⟩,
         ⟨some 49, some (44, true), .not (.tmp 48)⟩,
         ⟨some 50, none, .pick (.tmp 44) (.tmp 49) (.const (.bool false))⟩,
         ⟨some 33, none, .mv (.tmp 50)⟩])
       (.cond (.tmp 33)
        (.ops [
          ⟨some 51, none, .mv (.tmp 0)⟩,
          ⟨some 52, none, .call n_ansi_Parser_enter [(.tmp 51), (.const (.int .i64 3))]⟩])
        (.ops [
          ⟨some 4, none, .mv (.tmp 0)⟩,
          ⟨some 5, none, .mv (.tmp 1)⟩,
          ⟨some 6, none, .call n_ansi_Parser_end [(.tmp 4), (.const (.int .i64 3)), (.tmp 5)]⟩])))))))),
 []⟩

/-- (*ansi.Parser).control -/
def a_ansi_Parser_control : AFn := ⟨66,
 (.seq
  (.ops [
    ⟨some 5, none, .mv (.tmp 0)⟩,
    ⟨some 6, none, .nil (.tmp 5)⟩,
    ⟨some 7, none, .fld 9 (.tmp 6)⟩,
    ⟨some 8, none, .load1 (.tmp 7)⟩,
    ⟨some 4, none, .mv (.tmp 8)⟩])
  (.seq
   (.ops [
     ⟨some 9, none, .mv (.tmp 0)⟩,
     ⟨some 10, none, .nil (.tmp 9)⟩,
     ⟨some 11, none, .fld 9 (.tmp 10)⟩,
     ⟨none, none, .store 1 (.tmp 11) (.const (.bool true))⟩])
   (.block 0
    (.seq
     (.ops [
       ⟨some 16, none, .mv (.tmp 1)⟩,
       ⟨some 17, none, .bin .lss t_uint8 (.tmp 16) (.const (.int .u8 48))⟩,
       ⟨some 15, none, .mv (.tmp 17)⟩])
     (.cond (.tmp 15)
      (.ops [
        ⟨some 18, none, .mv (.tmp 0)⟩,
        ⟨some 19, none, .mv (.tmp 1)⟩,
        ⟨some 20, none, .call n_ansi_Parser_inter [(.tmp 18), (.tmp 19)]⟩])
      (.seq
       (.ops [
         ⟨some 22, none, .mv (.tmp 1)⟩,
         ⟨some 23, none, .bin .geq t_uint8 (.tmp 22) (.const (.int .u8 64))⟩,
         ⟨some 21, none, .mv (.tmp 23)⟩])
       (.cond (.tmp 21)
        (.ops [
          ⟨some 24, none, .mv (.tmp 0)⟩,
          ⟨some 25, none, .mv (.tmp 1)⟩,
          ⟨some 26, none, .call n_ansi_Parser_end [(.tmp 24), (.const (.int .i64 4)), (.tmp 25)]⟩])
        (.seq
         (.ops [
           ⟨some 28, none, .mv (.tmp 1)⟩,
           ⟨some 29, none, .bin .leq t_uint8 (.tmp 28) (.const (.int .u8 57))⟩,
           ⟨some 30, none, .mv (.tmp 29)⟩,
           ⟨some 31, some (30, true), .mv (.tmp 0)⟩,
           ⟨some 32, some (30, true), .nil (.tmp 31)⟩,
           ⟨some 33, some (30, true), .fld 2 (.tmp 32)⟩,
           ⟨some 34, some (30, true), .fld 3 (.tmp 33)⟩,
           ⟨some 35, some (30, true), .load1 (.tmp 34)⟩,
           ⟨some 36, some (30, true), .bin .eql t_uint8 (.tmp 35) (.const (.int .u8 0))⟩,
           ⟨some 37, none, .pick (.tmp 30) (.tmp 36) (.const (.bool false))⟩,
           ⟨some 27, none, .mv (.tmp 37)⟩])
         (.cond (.tmp 27)
          (.ops [
            ⟨some 38, none, .mv (.tmp 0)⟩,
            ⟨some 39, none, .mv (.tmp 1)⟩,
            ⟨some 40, none, .call n_ansi_Parser_digit [(.tmp 38), (.tmp 39)]⟩])
          (.seq
           (.ops [
             ⟨some 42, none, .mv (.tmp 1)⟩,
             ⟨some 43, none, .bin .eql t_uint8 (.tmp 42) (.const (.int .u8 59))⟩,
             ⟨some 44, none, .mv (.tmp 43)⟩,
             ⟨some 45, some (44, true), .mv (.tmp 0)⟩,
             ⟨some 46, some (44, true), .nil (.tmp 45)⟩,
             ⟨some 47, some (44, true), .fld 2 (.tmp 46)⟩,
             ⟨some 48, some (44, true), .fld 3 (.tmp 47)⟩,
             ⟨some 49, some (44, true), .load1 (.tmp 48)⟩,
             ⟨some 50, some (44, true), .bin .eql t_uint8 (.tmp 49) (.const (.int .u8 0))⟩,
             ⟨some 51, none, .pick (.tmp 44) (.tmp 50) (.const (.bool false))⟩,
             ⟨some 41, none, .mv (.tmp 51)⟩])
           (.cond (.tmp 41)
            (.ops [
              ⟨some 52, none, .mv (.tmp 0)⟩,
              ⟨some 53, none, .call n_ansi_Parser_next [(.tmp 52)]⟩])
            (.seq
             (.ops [
               ⟨some 55, none, .mv (.tmp 1)⟩,
               ⟨some 56, none, .bin .geq t_uint8 (.tmp 55) (.const (.int .u8 60))⟩,
               ⟨some 57, none, .mv (.tmp 56)⟩,
               ⟨some 58, some (57, true), .mv (.tmp 4)⟩,
               ⟨some 59, some (57, true), .not (.tmp 58)⟩,
               ⟨some 60, none, .pick (.tmp 57) (.tmp 59) (.const (.bool false))⟩,
               ⟨some 54, none, .mv (.tmp 60)⟩])
             (.cond (.tmp 54)
              (.ops [
                ⟨some 61, none, .mv (.tmp 0)⟩,
                ⟨some 62, none, .mv (.tmp 1)⟩,
                ⟨some 63, none, .nil (.tmp 61)⟩,
                ⟨some 64, none, .fld 2 (.tmp 63)⟩,
                ⟨some 65, none, .fld 2 (.tmp 64)⟩,
                ⟨none, none, .store 1 (.tmp 65) (.tmp 62)⟩])
              (.ops [
                ⟨some 12, none, .mv (.tmp 0)⟩,
                ⟨some 13, none, .nil (.tmp 12)⟩,
                ⟨some 14, none, .fld 10 (.tmp 13)⟩,
                ⟨none, none, .store 1 (.tmp 14) (.const (.bool true))⟩])))))))))))))),
 []⟩

/-- (*grid.Grid).Up -/
def a_grid_Grid_Up : AFn := ⟨58,
 (.seq
  (.ops [
    ⟨some 9, none, .box t_grid_Cell (.tmp 4)⟩,
    ⟨some 10, none, .mv (.const (.int .i64 0))⟩])
  (.seq
   (.seq
    (.ops [
      ⟨some 14, none, .mv (.tmp 0)⟩,
      ⟨some 15, none, .mv (.tmp 1)⟩,
      ⟨some 16, none, .mv (.tmp 2)⟩,
      ⟨some 17, none, .mv (.tmp 3)⟩,
      ⟨some 18, none, .call n_grid_Grid_rows [(.tmp 14), (.tmp 15), (.tmp 16), (.tmp 17)]⟩,
      ⟨some 11, none, .mv (.tmp 18)⟩])
    (.seq
     (.ops [
       ⟨some 19, none, .mv (.tmp 11)⟩,
       ⟨some 20, none, .bin .neq t_api_Errno (.tmp 19) (.const (.int .i64 0))⟩])
     (.cond (.tmp 20)
      (.seq
       (.ops [
         ⟨some 21, none, .mv (.tmp 11)⟩,
         ⟨some 10, none, .mv (.tmp 21)⟩])
       (.ret))
      (.skip))))
   (.seq
    (.ops [
      ⟨some 22, none, .mv (.tmp 0)⟩,
      ⟨some 23, none, .nil (.tmp 22)⟩,
      ⟨some 24, none, .fld 1 (.tmp 23)⟩,
      ⟨some 25, none, .load1 (.tmp 24)⟩,
      ⟨some 26, none, .mv (.tmp 1)⟩,
      ⟨some 27, none, .mv (.tmp 2)⟩,
      ⟨some 28, none, .bin .add t_int (.tmp 27) (.const (.int .i64 1))⟩,
      ⟨some 29, none, .gen (.slice t_S_S_grid_Cell (.tmp 25) (some (.tmp 26)) (some (.tmp 28)) none) t_S_S_grid_Cell⟩,
      ⟨some 12, none, .mv (.tmp 29)⟩])
    (.seq
     (.ops [
       ⟨some 30, none, .mv (.tmp 3)⟩,
       ⟨some 31, none, .mv (.tmp 12)⟩,
       ⟨some 32, none, .len (.tmp 31)⟩,
       ⟨some 33, none, .gen (.call ⟨.builtin .min, #[(.tmp 30), (.tmp 32)], #[t_int, t_int]⟩) t_int⟩,
       ⟨some 3, none, .mv (.tmp 33)⟩])
     (.seq
      (.ops [
        ⟨some 34, none, .mv (.tmp 12)⟩,
        ⟨some 35, none, .mv (.tmp 12)⟩,
        ⟨some 36, none, .mv (.tmp 3)⟩,
        ⟨some 37, none, .gen (.slice t_S_S_grid_Cell (.tmp 35) (some (.tmp 36)) none none) t_S_S_grid_Cell⟩,
        ⟨some 38, none, .gen (.call ⟨.builtin .copy, #[(.tmp 34), (.tmp 37)], #[t_S_S_grid_Cell, t_S_S_grid_Cell]⟩) t_int⟩])
      (.seq
       (.seq
        (.ops [
          ⟨some 39, none, .mv (.tmp 12)⟩,
          ⟨some 40, none, .len (.tmp 39)⟩,
          ⟨some 41, none, .mv (.tmp 3)⟩,
          ⟨some 42, none, .bin .sub t_int (.tmp 40) (.tmp 41)⟩,
          ⟨some 13, none, .mv (.tmp 42)⟩])
        (.block 0
         (.loop
          (.seq
           (.seq
            (.ops [
              ⟨some 43, none, .mv (.tmp 13)⟩,
              ⟨some 44, none, .mv (.tmp 12)⟩,
              ⟨some 45, none, .len (.tmp 44)⟩,
              ⟨some 46, none, .bin .lss t_int (.tmp 43) (.tmp 45)⟩])
            (.cond (.tmp 46)
             (.skip)
             (.exit 0)))
           (.seq
            (.block 1
             (.plan [
               (⟨some 49, none, .mv (.tmp 12)⟩, []),
               (⟨some 50, none, .mv (.tmp 13)⟩, []),
               (⟨some 51, none, .mv (.tmp 0)⟩, []),
               (⟨some 52, none, .nil (.tmp 51)⟩, []),
               (⟨some 53, none, .fld 0 (.tmp 52)⟩, []),
               (⟨some 54, none, .load1 (.tmp 53)⟩, []),
               (⟨some 55, none, .loadN 4 (.tmp 9)⟩, []),
               (⟨some 56, none, .call n_grid_line [(.tmp 54), (.tmp 55)]⟩, []),
               (⟨some 57, none, .idxS 1 (.tmp 49) (.tmp 50)⟩, []),
               (⟨none, none, .store 1 (.tmp 57) (.tmp 56)⟩, [])]))
            (.ops [
              ⟨some 47, none, .mv (.tmp 13)⟩,
              ⟨some 48, none, .bin .add t_int (.tmp 47) (.const (.int .i64 1))⟩,
              ⟨some 13, none, .mv (.tmp 48)⟩]))))))
       (.seq
        (.ops [
          ⟨some 10, none, .mv (.const (.int .i64 0))⟩])
        (.ret)))))))),
 [.tmp 10]⟩

/-- (*grid.Grid).cells -/
def a_grid_Grid_cells : AFn := ⟨21,
 (.seq
  (.ops [
    ⟨some 8, none, .mv (.const (.int .i64 0))⟩])
  (.seq
   (.ops [
     ⟨some 10, none, .mv (.tmp 0)⟩,
     ⟨some 11, none, .mv (.tmp 1)⟩,
     ⟨some 12, none, .mv (.tmp 2)⟩,
     ⟨some 13, none, .call n_grid_Grid_has [(.tmp 10), (.tmp 11), (.tmp 12)]⟩,
     ⟨some 9, none, .mv (.tmp 13)⟩])
   (.seq
    (.seq
     (.ops [
       ⟨some 14, none, .mv (.tmp 9)⟩,
       ⟨some 15, none, .bin .eql t_api_Errno (.tmp 14) (.const (.int .i64 0))⟩,
       ⟨some 16, none, .mv (.tmp 15)⟩,
       ⟨some 17, some (16, true), .mv (.tmp 3)⟩,
       ⟨some 18, some (16, true), .bin .lss t_int (.tmp 17) (.const (.int .i64 0))⟩,
       ⟨some 19, none, .pick (.tmp 16) (.tmp 18) (.const (.bool false))⟩])
     (.cond (.tmp 19)
      (.ops [
        ⟨some 9, none, .mv (.const (.int .i64 1))⟩])
      (.skip)))
    (.seq
     (.ops [
       ⟨some 20, none, .mv (.tmp 9)⟩,
       ⟨some 8, none, .mv (.tmp 20)⟩])
     (.ret))))),
 [.tmp 8]⟩

/-- (*grid.Grid).Down -/
def a_grid_Grid_Down : AFn := ⟨58,
 (.seq
  (.ops [
    ⟨some 9, none, .box t_grid_Cell (.tmp 4)⟩,
    ⟨some 10, none, .mv (.const (.int .i64 0))⟩])
  (.seq
   (.seq
    (.ops [
      ⟨some 14, none, .mv (.tmp 0)⟩,
      ⟨some 15, none, .mv (.tmp 1)⟩,
      ⟨some 16, none, .mv (.tmp 2)⟩,
      ⟨some 17, none, .mv (.tmp 3)⟩,
      ⟨some 18, none, .call n_grid_Grid_rows [(.tmp 14), (.tmp 15), (.tmp 16), (.tmp 17)]⟩,
      ⟨some 11, none, .mv (.tmp 18)⟩])
    (.seq
     (.ops [
       ⟨some 19, none, .mv (.tmp 11)⟩,
       ⟨some 20, none, .bin .neq t_api_Errno (.tmp 19) (.const (.int .i64 0))⟩])
     (.cond (.tmp 20)
      (.seq
       (.ops [
         ⟨some 21, none, .mv (.tmp 11)⟩,
         ⟨some 10, none, .mv (.tmp 21)⟩])
       (.ret))
      (.skip))))
   (.seq
    (.ops [
      ⟨some 22, none, .mv (.tmp 0)⟩,
      ⟨some 23, none, .nil (.tmp 22)⟩,
      ⟨some 24, none, .fld 1 (.tmp 23)⟩,
      ⟨some 25, none, .load1 (.tmp 24)⟩,
      ⟨some 26, none, .mv (.tmp 1)⟩,
      ⟨some 27, none, .mv (.tmp 2)⟩,
      ⟨some 28, none, .bin .add t_int (.tmp 27) (.const (.int .i64 1))⟩,
      ⟨some 29, none, .gen (.slice t_S_S_grid_Cell (.tmp 25) (some (.tmp 26)) (some (.tmp 28)) none) t_S_S_grid_Cell⟩,
      ⟨some 12, none, .mv (.tmp 29)⟩])
    (.seq
     (.ops [
       ⟨some 30, none, .mv (.tmp 3)⟩,
       ⟨some 31, none, .mv (.tmp 12)⟩,
       ⟨some 32, none, .len (.tmp 31)⟩,
       ⟨some 33, none, .gen (.call ⟨.builtin .min, #[(.tmp 30), (.tmp 32)], #[t_int, t_int]⟩) t_int⟩,
       ⟨some 3, none, .mv (.tmp 33)⟩])
     (.seq
      (.plan [
        (⟨some 34, none, .mv (.tmp 12)⟩, []),
        (⟨some 35, none, .mv (.tmp 3)⟩, []),
        (⟨some 36, none, .gen (.slice t_S_S_grid_Cell (.tmp 34) (some (.tmp 35)) none none) t_S_S_grid_Cell⟩, []),
        (⟨some 37, none, .mv (.tmp 12)⟩, []),
        (⟨some 38, none, .mv (.tmp 12)⟩, []),
        (⟨some 39, none, .len (.tmp 38)⟩, []),
        (⟨some 40, none, .mv (.tmp 3)⟩, []),
        (⟨some 41, none, .bin .sub t_int (.tmp 39) (.tmp 40)⟩, []),
        (⟨some 42, none, .gen (.slice t_S_S_grid_Cell (.tmp 37) none (some (.tmp 41)) none) t_S_S_grid_Cell⟩, []),
        (⟨some 43, none, .gen (.call ⟨.builtin .copy, #[(.tmp 36), (.tmp 42)], #[t_S_S_grid_Cell, t_S_S_grid_Cell]⟩) t_int⟩, [])])
      (.seq
       (.seq
        (.ops [
          ⟨some 44, none, .mv (.tmp 3)⟩,
          ⟨some 45, none, .mv (.const (.int .i64 0))⟩])
        (.block 0
         (.loop
          (.seq
           (.ops [
             ⟨some 46, none, .bin .lss t_int (.tmp 45) (.tmp 44)⟩])
           (.seq
            (.cond (.tmp 46)
             (.skip)
             (.exit 0))
            (.seq
             (.block 1
              (.seq
               (.ops [
                 ⟨some 47, none, .mv (.tmp 45)⟩,
                 ⟨some 13, none, .mv (.tmp 47)⟩])
               (.plan [
                 (⟨some 48, none, .mv (.tmp 12)⟩, []),
                 (⟨some 49, none, .mv (.tmp 13)⟩, []),
                 (⟨some 50, none, .mv (.tmp 0)⟩, []),
                 (⟨some 51, none, .nil (.tmp 50)⟩, []),
                 (⟨some 52, none, .fld 0 (.tmp 51)⟩, []),
                 (⟨some 53, none, .load1 (.tmp 52)⟩, []),
                 (⟨some 54, none, .loadN 4 (.tmp 9)⟩, []),
                 (⟨some 55, none, .call n_grid_line [(.tmp 53), (.tmp 54)]⟩, []),
                 (⟨some 56, none, .idxS 1 (.tmp 48) (.tmp 49)⟩, []),
                 (⟨none, none, .store 1 (.tmp 56) (.tmp 55)⟩, [])])))
             (.ops [
               ⟨some 57, none, .bin .add t_int (.tmp 45) (.const (.int .i64 1))⟩,
               ⟨some 45, none, .mv (.tmp 57)⟩])))))))
       (.seq
        (.ops [
          ⟨some 10, none, .mv (.const (.int .i64 0))⟩])
        (.ret)))))))),
 [.tmp 10]⟩

/-- (*term.Term).home -/
def a_term_Term_home : AFn := ⟨15,
 (.seq
  (.seq
   (.ops [
     ⟨some 2, none, .mv (.tmp 0)⟩,
     ⟨some 3, none, .nil (.tmp 2)⟩,
     ⟨some 4, none, .fld 13 (.tmp 3)⟩,
     ⟨some 5, none, .fld 2 (.tmp 4)⟩,
     ⟨some 6, none, .load1 (.tmp 5)⟩])
   (.cond (.tmp 6)
    (.seq
     (.ops [
       ⟨some 7, none, .mv (.tmp 0)⟩,
       ⟨some 8, none, .mv (.tmp 0)⟩,
       ⟨some 9, none, .nil (.tmp 8)⟩,
       ⟨some 10, none, .fld 11 (.tmp 9)⟩,
       ⟨some 11, none, .load1 (.tmp 10)⟩,
       ⟨some 12, none, .call n_term_Term_move [(.tmp 7), (.tmp 11), (.const (.int .i64 0))]⟩])
     (.ret))
    (.skip)))
  (.ops [
    ⟨some 13, none, .mv (.tmp 0)⟩,
    ⟨some 14, none, .call n_term_Term_move [(.tmp 13), (.const (.int .i64 0)), (.const (.int .i64 0))]⟩])),
 []⟩

/-- (*term.Term).screen -/
def a_term_Term_screen : AFn := ⟨37,
 (.seq
  (.seq
   (.ops [
     ⟨some 5, none, .mv (.tmp 1)⟩,
     ⟨some 6, none, .bin .eql t_int (.tmp 5) (.const (.int .i64 1))⟩,
     ⟨some 7, none, .mv (.tmp 6)⟩,
     ⟨some 8, some (7, true), .mv (.tmp 0)⟩,
     ⟨some 9, some (7, true), .nil (.tmp 8)⟩,
     ⟨some 10, some (7, true), .fld 4 (.tmp 9)⟩,
     ⟨some 11, some (7, true), .load1 (.tmp 10)⟩,
     ⟨some 12, some (7, true), .bin .eql t_int (.tmp 11) (.const (.int .i64 0))⟩,
     ⟨some 13, none, .pick (.tmp 7) (.tmp 12) (.const (.bool false))⟩])
   (.cond (.tmp 13)
    (.seq
     (.ops [
       ⟨some 14, none, .mv (.tmp 0)⟩,
       ⟨some 15, none, .nil (.tmp 14)⟩,
       ⟨some 16, none, .fld 2 (.tmp 15)⟩,
       ⟨some 17, none, .idxA 2 1 (.tmp 16) (.const (.int .i64 1))⟩,
       ⟨some 18, none, .load1 (.tmp 17)⟩,
       ⟨some 19, none, .call n_grid_Grid_Rows [(.tmp 18)]⟩,
       ⟨some 20, none, .mv (.const (.int .i64 0))⟩])
     (.block 0
      (.loop
       (.seq
        (.ops [
          ⟨some 21, none, .bin .lss t_int (.tmp 20) (.tmp 19)⟩])
        (.seq
         (.cond (.tmp 21)
          (.skip)
          (.exit 0))
         (.seq
          (.block 1
           (.seq
            (.ops [
              ⟨some 22, none, .mv (.tmp 20)⟩,
              ⟨some 4, none, .mv (.tmp 22)⟩])
            (.plan [
              (⟨some 23, none, .mv (.tmp 0)⟩, []),
              (⟨some 24, none, .nil (.tmp 23)⟩, []),
              (⟨some 25, none, .fld 2 (.tmp 24)⟩, []),
              (⟨some 26, none, .idxA 2 1 (.tmp 25) (.const (.int .i64 1))⟩, []),
              (⟨some 27, none, .load1 (.tmp 26)⟩, []),
              (⟨some 28, none, .mv (.tmp 4)⟩, []),
              (⟨some 29, none, .mv (.tmp 0)⟩, []),
              (⟨some 30, none, .call n_term_Term_erased [(.tmp 29)]⟩, [⟨some 27, none, .load1 (.tmp 26)⟩]),
              (⟨some 31, none, .call n_grid_Grid_Fill [(.tmp 27), (.tmp 28), (.const (.int .i64 0)), (.const (.int .i64 40)), (.tmp 30)]⟩, [])])))
          (.ops [
            ⟨some 32, none, .bin .add t_int (.tmp 20) (.const (.int .i64 1))⟩,
            ⟨some 20, none, .mv (.tmp 32)⟩])))))))
    (.skip)))
  (.ops [
    ⟨some 33, none, .mv (.tmp 0)⟩,
    ⟨some 34, none, .mv (.tmp 1)⟩,
    ⟨some 35, none, .nil (.tmp 33)⟩,
    ⟨some 36, none, .fld 4 (.tmp 35)⟩,
    ⟨none, none, .store 1 (.tmp 36) (.tmp 34)⟩])),
 []⟩

/-- term.number -/
def a_term_number : AFn := ⟨26,
 (.seq
  (.ops [
    ⟨some 3, none, .box t_ansi_Event (.tmp 0)⟩,
    ⟨some 6, none, .mv (.const (.int .i64 0))⟩])
  (.seq
   (.seq
    (.ops [
      ⟨some 7, none, .mv (.tmp 1)⟩,
      ⟨some 8, none, .fld 5 (.tmp 3)⟩,
      ⟨some 9, none, .load1 (.tmp 8)⟩,
      ⟨some 10, none, .len (.tmp 9)⟩,
      ⟨some 11, none, .bin .lss t_int (.tmp 7) (.tmp 10)⟩,
      ⟨some 12, none, .mv (.tmp 11)⟩,
      ⟨some 13, some (12, true), .fld 5 (.tmp 3)⟩,
      ⟨some 14, some (12, true), .load1 (.tmp 13)⟩,
      ⟨some 15, some (12, true), .mv (.tmp 1)⟩,
      ⟨some 16, some (12, true), .idxS 1 (.tmp 14) (.tmp 15)⟩,
      ⟨some 17, some (12, true), .load1 (.tmp 16)⟩,
      ⟨some 18, some (12, true), .bin .neq t_int (.tmp 17) (.const (.int .i64 0))⟩,
      ⟨some 19, none, .pick (.tmp 12) (.tmp 18) (.const (.bool false))⟩])
    (.cond (.tmp 19)
     (.seq
      (.ops [
        ⟨some 20, none, .fld 5 (.tmp 3)⟩,
        ⟨some 21, none, .load1 (.tmp 20)⟩,
        ⟨some 22, none, .mv (.tmp 1)⟩,
        ⟨some 23, none, .idxS 1 (.tmp 21) (.tmp 22)⟩,
        ⟨some 24, none, .load1 (.tmp 23)⟩,
        ⟨some 6, none, .mv (.tmp 24)⟩])
      (.ret))
     (.skip)))
   (.seq
    (.ops [
      ⟨some 25, none, .mv (.tmp 2)⟩,
      ⟨some 6, none, .mv (.tmp 25)⟩])
    (.ret)))),
 [.tmp 6]⟩

/-- (*term.Term).up -/
def a_term_Term_up : AFn := ⟨31,
 (.seq
  (.ops [
    ⟨some 6, none, .mv (.const (.int .i64 0))⟩])
  (.seq
   (.seq
    (.plan [
      (⟨some 7, none, .mv (.tmp 0)⟩, []),
      (⟨some 8, none, .nil (.tmp 7)⟩, []),
      (⟨some 9, none, .fld 5 (.tmp 8)⟩, []),
      (⟨some 10, none, .load1 (.tmp 9)⟩, []),
      (⟨some 11, none, .mv (.tmp 0)⟩, []),
      (⟨some 12, none, .nil (.tmp 11)⟩, []),
      (⟨some 13, none, .fld 11 (.tmp 12)⟩, []),
      (⟨some 14, none, .load1 (.tmp 13)⟩, []),
      (⟨some 15, none, .bin .geq t_int (.tmp 10) (.tmp 14)⟩, [])])
    (.cond (.tmp 15)
     (.ops [
       ⟨some 16, none, .mv (.tmp 0)⟩,
       ⟨some 17, none, .nil (.tmp 16)⟩,
       ⟨some 18, none, .fld 11 (.tmp 17)⟩,
       ⟨some 19, none, .load1 (.tmp 18)⟩,
       ⟨some 6, none, .mv (.tmp 19)⟩])
     (.skip)))
   (.ops [
     ⟨some 20, none, .mv (.tmp 0)⟩,
     ⟨some 21, none, .mv (.tmp 0)⟩,
     ⟨some 22, none, .nil (.tmp 21)⟩,
     ⟨some 23, none, .fld 5 (.tmp 22)⟩,
     ⟨some 24, none, .load1 (.tmp 23)⟩,
     ⟨some 25, none, .mv (.tmp 1)⟩,
     ⟨some 26, none, .bin .sub t_int (.tmp 24) (.tmp 25)⟩,
     ⟨some 27, none, .mv (.tmp 6)⟩,
     ⟨some 28, none, .gen (.call ⟨.builtin .max, #[(.tmp 26), (.tmp 27)], #[t_int, t_int]⟩) t_int⟩,
     ⟨some 29, none, .mv (.tmp 2)⟩,
     ⟨some 30, none, .call n_term_Term_move [(.tmp 20), (.tmp 28), (.tmp 29)]⟩]))),
 []⟩

/-- (*term.Term).down -/
def a_term_Term_down : AFn := ⟨35,
 (.seq
  (.ops [
    ⟨some 7, none, .mv (.tmp 0)⟩,
    ⟨some 8, none, .call n_term_Term_g [(.tmp 7)]⟩,
    ⟨some 9, none, .call n_grid_Grid_Rows [(.tmp 8)]⟩,
    ⟨some 10, none, .bin .sub t_int (.tmp 9) (.const (.int .i64 1))⟩,
    ⟨some 6, none, .mv (.tmp 10)⟩])
  (.seq
   (.seq
    (.plan [
      (⟨some 11, none, .mv (.tmp 0)⟩, []),
      (⟨some 12, none, .nil (.tmp 11)⟩, []),
      (⟨some 13, none, .fld 5 (.tmp 12)⟩, []),
      (⟨some 14, none, .load1 (.tmp 13)⟩, []),
      (⟨some 15, none, .mv (.tmp 0)⟩, []),
      (⟨some 16, none, .nil (.tmp 15)⟩, []),
      (⟨some 17, none, .fld 12 (.tmp 16)⟩, []),
      (⟨some 18, none, .load1 (.tmp 17)⟩, []),
      (⟨some 19, none, .bin .leq t_int (.tmp 14) (.tmp 18)⟩, [])])
    (.cond (.tmp 19)
     (.ops [
       ⟨some 20, none, .mv (.tmp 0)⟩,
       ⟨some 21, none, .nil (.tmp 20)⟩,
       ⟨some 22, none, .fld 12 (.tmp 21)⟩,
       ⟨some 23, none, .load1 (.tmp 22)⟩,
       ⟨some 6, none, .mv (.tmp 23)⟩])
     (.skip)))
   (.ops [
     ⟨some 24, none, .mv (.tmp 0)⟩,
     ⟨some 25, none, .mv (.tmp 0)⟩,
     ⟨some 26, none, .nil (.tmp 25)⟩,
     ⟨some 27, none, .fld 5 (.tmp 26)⟩,
     ⟨some 28, none, .load1 (.tmp 27)⟩,
     ⟨some 29, none, .mv (.tmp 1)⟩,
     ⟨some 30, none, .bin .add t_int (.tmp 28) (.tmp 29)⟩,
     ⟨some 31, none, .mv (.tmp 6)⟩,
     ⟨some 32, none, .gen (.call ⟨.builtin .min, #[(.tmp 30), (.tmp 31)], #[t_int, t_int]⟩) t_int⟩,
     ⟨some 33, none, .mv (.tmp 2)⟩,
     ⟨some 34, none, .call n_term_Term_move [(.tmp 24), (.tmp 32), (.tmp 33)]⟩]))),
 []⟩

/-- (*term.Term).place -/
def a_term_Term_place : AFn := ⟨26,
 (.seq
  (.seq
   (.ops [
     ⟨some 6, none, .mv (.tmp 0)⟩,
     ⟨some 7, none, .nil (.tmp 6)⟩,
     ⟨some 8, none, .fld 13 (.tmp 7)⟩,
     ⟨some 9, none, .fld 2 (.tmp 8)⟩,
     ⟨some 10, none, .load1 (.tmp 9)⟩])
   (.cond (.tmp 10)
    (.plan [
      (⟨some 11, none, .mv (.tmp 0)⟩, []),
      (⟨some 12, none, .nil (.tmp 11)⟩, []),
      (⟨some 13, none, .fld 11 (.tmp 12)⟩, []),
      (⟨some 14, none, .load1 (.tmp 13)⟩, []),
      (⟨some 15, none, .mv (.tmp 1)⟩, []),
      (⟨some 16, none, .bin .add t_int (.tmp 14) (.tmp 15)⟩, []),
      (⟨some 17, none, .mv (.tmp 0)⟩, []),
      (⟨some 18, none, .nil (.tmp 17)⟩, []),
      (⟨some 19, none, .fld 12 (.tmp 18)⟩, []),
      (⟨some 20, none, .load1 (.tmp 19)⟩, []),
      (⟨some 21, none, .gen (.call ⟨.builtin .min, #[(.tmp 16), (.tmp 20)], #[t_int, t_int]⟩) t_int⟩, []),
      (⟨some 1, none, .mv (.tmp 21)⟩, [])])
    (.skip)))
  (.ops [
    ⟨some 22, none, .mv (.tmp 0)⟩,
    ⟨some 23, none, .mv (.tmp 1)⟩,
    ⟨some 24, none, .mv (.tmp 2)⟩,
    ⟨some 25, none, .call n_term_Term_move [(.tmp 22), (.tmp 23), (.tmp 24)]⟩])),
 []⟩

/-- (*term.Term).display -/
def a_term_Term_display : AFn := ⟨49,
 (.seq
  (.seq
   (.ops [
     ⟨some 6, none, .mv (.tmp 0)⟩,
     ⟨some 7, none, .call n_term_Term_g [(.tmp 6)]⟩,
     ⟨some 8, none, .call n_grid_Grid_Rows [(.tmp 7)]⟩,
     ⟨some 9, none, .mv (.const (.int .i64 0))⟩])
   (.block 0
    (.loop
     (.seq
      (.ops [
        ⟨some 10, none, .bin .lss t_int (.tmp 9) (.tmp 8)⟩])
      (.seq
       (.cond (.tmp 10)
        (.skip)
        (.exit 0))
       (.seq
        (.block 1
         (.seq
          (.ops [
            ⟨some 11, none, .mv (.tmp 9)⟩,
            ⟨some 4, none, .mv (.tmp 11)⟩])
          (.seq
           (.ops [
             ⟨some 12, none, .mv (.tmp 1)⟩,
             ⟨some 13, none, .bin .eql t_int (.tmp 12) (.const (.int .i64 2))⟩,
             ⟨some 14, none, .mv (.tmp 13)⟩,
             ⟨some 15, some (14, false), .mv (.tmp 1)⟩,
             ⟨some 16, some (14, false), .bin .eql t_int (.tmp 15) (.const (.int .i64 0))⟩,
             ⟨some 17, some (14, false), .mv (.tmp 16)⟩,
             ⟨some 18, some (17, true), .mv (.tmp 4)⟩,
             ⟨some 19, some (17, true), .mv (.tmp 0)⟩,
             ⟨some 20, some (17, true), .nil (.tmp 19)⟩,
             ⟨some 21, some (17, true), .fld 5 (.tmp 20)⟩,
             ⟨some 22, some (17, true), .load1 (.tmp 21)⟩,
             ⟨some 23, some (17, true), .bin .gtr t_int (.tmp 18) (.tmp 22)⟩,
             ⟨some 24, some (14, false), .pick (.tmp 17) (.tmp 23) (.const (.bool false))⟩,
             ⟨some 25, none, .pick (.tmp 14) (.const (.bool true)) (.tmp 24)⟩,
             ⟨some 26, none, .mv (.tmp 25)⟩,
             ⟨some 27, some (26, false), .mv (.tmp 1)⟩,
             ⟨some 28, some (26, false), .bin .eql t_int (.tmp 27) (.const (.int .i64 1))⟩,
             ⟨some 29, some (26, false), .mv (.tmp 28)⟩,
             ⟨some 30, some (29, true), .mv (.tmp 4)⟩,
             ⟨some 31, some (29, true), .mv (.tmp 0)⟩,
             ⟨some 32, some (29, true), .nil (.tmp 31)⟩,
             ⟨some 33, some (29, true), .fld 5 (.tmp 32)⟩,
             ⟨some 34, some (29, true), .load1 (.tmp 33)⟩,
             ⟨some 35, some (29, true), .bin .lss t_int (.tmp 30) (.tmp 34)⟩,
             ⟨some 36, some (26, false), .pick (.tmp 29) (.tmp 35) (.const (.bool false))⟩,
             ⟨some 37, none, .pick (.tmp 26) (.const (.bool true)) (.tmp 36)⟩,
             ⟨some 5, none, .mv (.tmp 37)⟩])
           (.seq
            (.ops [
              ⟨some 38, none, .mv (.tmp 5)⟩])
            (.cond (.tmp 38)
             (.ops [
               ⟨some 39, none, .mv (.tmp 0)⟩,
               ⟨some 40, none, .call n_term_Term_g [(.tmp 39)]⟩,
               ⟨some 41, none, .mv (.tmp 4)⟩,
               ⟨some 42, none, .mv (.tmp 0)⟩,
               ⟨some 43, none, .call n_term_Term_erased [(.tmp 42)]⟩,
               ⟨some 44, none, .call n_grid_Grid_Fill [(.tmp 40), (.tmp 41), (.const (.int .i64 0)), (.const (.int .i64 40)), (.tmp 43)]⟩])
             (.skip))))))
        (.ops [
          ⟨some 45, none, .bin .add t_int (.tmp 9) (.const (.int .i64 1))⟩,
          ⟨some 9, none, .mv (.tmp 45)⟩])))))))
  (.ops [
    ⟨some 46, none, .mv (.tmp 0)⟩,
    ⟨some 47, none, .mv (.tmp 1)⟩,
    ⟨some 48, none, .call n_term_Term_line [(.tmp 46), (.tmp 47)]⟩])),
 []⟩

/-- (*term.Term).line -/
def a_term_Term_line : AFn := ⟨47,
 (.seq
  (.ops [
    ⟨some 4, none, .mv (.tmp 1)⟩])
  (.block 0
   (.seq
    (.ops [
      ⟨some 6, none, .bin .eql t_int (.tmp 4) (.const (.int .i64 0))⟩,
      ⟨some 5, none, .mv (.tmp 6)⟩])
    (.cond (.tmp 5)
     (.plan [
       (⟨some 7, none, .mv (.tmp 0)⟩, []),
       (⟨some 9, none, .mv (.tmp 0)⟩, []),
       (⟨some 10, none, .nil (.tmp 9)⟩, []),
       (⟨some 11, none, .fld 5 (.tmp 10)⟩, []),
       (⟨some 12, none, .load1 (.tmp 11)⟩, []),
       (⟨some 13, none, .mv (.tmp 0)⟩, []),
       (⟨some 14, none, .nil (.tmp 13)⟩, []),
       (⟨some 15, none, .fld 6 (.tmp 14)⟩, []),
       (⟨some 16, none, .load1 (.tmp 15)⟩, []),
       (⟨some 17, none, .mv (.tmp 0)⟩, []),
       (⟨some 8, none, .call n_term_Term_g [(.tmp 7)]⟩, [⟨some 12, none, .load1 (.tmp 11)⟩, ⟨some 16, none, .load1 (.tmp 15)⟩]),
       (⟨some 18, none, .call n_term_Term_erased [(.tmp 17)]⟩, [⟨some 12, none, .load1 (.tmp 11)⟩, ⟨some 16, none, .load1 (.tmp 15)⟩]),
       (⟨some 19, none, .call n_grid_Grid_Fill [(.tmp 8), (.tmp 12), (.tmp 16), (.const (.int .i64 40)), (.tmp 18)]⟩, [])])
     (.seq
      (.ops [
        ⟨some 21, none, .bin .eql t_int (.tmp 4) (.const (.int .i64 1))⟩,
        ⟨some 20, none, .mv (.tmp 21)⟩])
      (.cond (.tmp 20)
       (.plan [
         (⟨some 22, none, .mv (.tmp 0)⟩, []),
         (⟨some 24, none, .mv (.tmp 0)⟩, []),
         (⟨some 25, none, .nil (.tmp 24)⟩, []),
         (⟨some 26, none, .fld 5 (.tmp 25)⟩, []),
         (⟨some 27, none, .load1 (.tmp 26)⟩, []),
         (⟨some 28, none, .mv (.tmp 0)⟩, []),
         (⟨some 29, none, .nil (.tmp 28)⟩, []),
         (⟨some 30, none, .fld 6 (.tmp 29)⟩, []),
         (⟨some 31, none, .load1 (.tmp 30)⟩, []),
         (⟨some 32, none, .bin .add t_int (.tmp 31) (.const (.int .i64 1))⟩, []),
         (⟨some 33, none, .mv (.tmp 0)⟩, []),
         (⟨some 23, none, .call n_term_Term_g [(.tmp 22)]⟩, [⟨some 27, none, .load1 (.tmp 26)⟩, ⟨some 31, none, .load1 (.tmp 30)⟩]),
         (⟨some 34, none, .call n_term_Term_erased [(.tmp 33)]⟩, [⟨some 27, none, .load1 (.tmp 26)⟩, ⟨some 31, none, .load1 (.tmp 30)⟩]),
         (⟨some 35, none, .call n_grid_Grid_Fill [(.tmp 23), (.tmp 27), (.const (.int .i64 0)), (.tmp 32), (.tmp 34)]⟩, [])])
       (.seq
        (.ops [
          ⟨some 37, none, .bin .eql t_int (.tmp 4) (.const (.int .i64 2))⟩,
          ⟨some 36, none, .mv (.tmp 37)⟩])
        (.cond (.tmp 36)
         (.plan [
           (⟨some 38, none, .mv (.tmp 0)⟩, []),
           (⟨some 40, none, .mv (.tmp 0)⟩, []),
           (⟨some 41, none, .nil (.tmp 40)⟩, []),
           (⟨some 42, none, .fld 5 (.tmp 41)⟩, []),
           (⟨some 43, none, .load1 (.tmp 42)⟩, []),
           (⟨some 44, none, .mv (.tmp 0)⟩, []),
           (⟨some 39, none, .call n_term_Term_g [(.tmp 38)]⟩, [⟨some 43, none, .load1 (.tmp 42)⟩]),
           (⟨some 45, none, .call n_term_Term_erased [(.tmp 44)]⟩, [⟨some 43, none, .load1 (.tmp 42)⟩]),
           (⟨some 46, none, .call n_grid_Grid_Fill [(.tmp 39), (.tmp 43), (.const (.int .i64 0)), (.const (.int .i64 40)), (.tmp 45)]⟩, [])])
         (.skip))))))))),
 []⟩

/-- (*term.Term).lines -/
def a_term_Term_lines : AFn := ⟨61,
 (.seq
  (.seq
   (.plan [
     (⟨some 6, none, .mv (.tmp 0)⟩, []),
     (⟨some 7, none, .nil (.tmp 6)⟩, []),
     (⟨some 8, none, .fld 5 (.tmp 7)⟩, []),
     (⟨some 9, none, .load1 (.tmp 8)⟩, []),
     (⟨some 10, none, .mv (.tmp 0)⟩, []),
     (⟨some 11, none, .nil (.tmp 10)⟩, []),
     (⟨some 12, none, .fld 11 (.tmp 11)⟩, []),
     (⟨some 13, none, .load1 (.tmp 12)⟩, []),
     (⟨some 14, none, .bin .lss t_int (.tmp 9) (.tmp 13)⟩, []),
     (⟨some 15, none, .mv (.tmp 14)⟩, []),
     (⟨some 16, some (15, false), .mv (.tmp 0)⟩, []),
     (⟨some 17, some (15, false), .nil (.tmp 16)⟩, []),
     (⟨some 18, some (15, false), .fld 5 (.tmp 17)⟩, []),
     (⟨some 19, some (15, false), .load1 (.tmp 18)⟩, []),
     (⟨some 20, some (15, false), .mv (.tmp 0)⟩, []),
     (⟨some 21, some (15, false), .nil (.tmp 20)⟩, []),
     (⟨some 22, some (15, false), .fld 12 (.tmp 21)⟩, []),
     (⟨some 23, some (15, false), .load1 (.tmp 22)⟩, []),
     (⟨some 24, some (15, false), .bin .gtr t_int (.tmp 19) (.tmp 23)⟩, []),
     (⟨some 25, none, .pick (.tmp 15) (.const (.bool true)) (.tmp 24)⟩, [])])
   (.cond (.tmp 25)
    (.ret)
    (.skip)))
  (.seq
   (.seq
    (.ops [
      ⟨some 26, none, .mv (.tmp 2)⟩])
    (.cond (.tmp 26)
     (.plan [
       (⟨some 27, none, .mv (.tmp 0)⟩, []),
       (⟨some 29, none, .mv (.tmp 0)⟩, []),
       (⟨some 30, none, .nil (.tmp 29)⟩, []),
       (⟨some 31, none, .fld 5 (.tmp 30)⟩, []),
       (⟨some 32, none, .load1 (.tmp 31)⟩, []),
       (⟨some 33, none, .mv (.tmp 0)⟩, []),
       (⟨some 34, none, .nil (.tmp 33)⟩, []),
       (⟨some 35, none, .fld 12 (.tmp 34)⟩, []),
       (⟨some 36, none, .load1 (.tmp 35)⟩, []),
       (⟨some 37, none, .mv (.tmp 1)⟩, []),
       (⟨some 38, none, .mv (.tmp 0)⟩, []),
       (⟨some 28, none, .call n_term_Term_g [(.tmp 27)]⟩, [⟨some 32, none, .load1 (.tmp 31)⟩, ⟨some 36, none, .load1 (.tmp 35)⟩]),
       (⟨some 39, none, .call n_term_Term_erased [(.tmp 38)]⟩, [⟨some 32, none, .load1 (.tmp 31)⟩, ⟨some 36, none, .load1 (.tmp 35)⟩]),
       (⟨some 40, none, .call n_grid_Grid_Down [(.tmp 28), (.tmp 32), (.tmp 36), (.tmp 37), (.tmp 39)]⟩, [])])
     (.plan [
       (⟨some 41, none, .mv (.tmp 0)⟩, []),
       (⟨some 43, none, .mv (.tmp 0)⟩, []),
       (⟨some 44, none, .nil (.tmp 43)⟩, []),
       (⟨some 45, none, .fld 5 (.tmp 44)⟩, []),
       (⟨some 46, none, .load1 (.tmp 45)⟩, []),
       (⟨some 47, none, .mv (.tmp 0)⟩, []),
       (⟨some 48, none, .nil (.tmp 47)⟩, []),
       (⟨some 49, none, .fld 12 (.tmp 48)⟩, []),
       (⟨some 50, none, .load1 (.tmp 49)⟩, []),
       (⟨some 51, none, .mv (.tmp 1)⟩, []),
       (⟨some 52, none, .mv (.tmp 0)⟩, []),
       (⟨some 42, none, .call n_term_Term_g [(.tmp 41)]⟩, [⟨some 46, none, .load1 (.tmp 45)⟩, ⟨some 50, none, .load1 (.tmp 49)⟩]),
       (⟨some 53, none, .call n_term_Term_erased [(.tmp 52)]⟩, [⟨some 46, none, .load1 (.tmp 45)⟩, ⟨some 50, none, .load1 (.tmp 49)⟩]),
       (⟨some 54, none, .call n_grid_Grid_Up [(.tmp 42), (.tmp 46), (.tmp 50), (.tmp 51), (.tmp 53)]⟩, [])])))
   (.ops [
     ⟨some 55, none, .mv (.tmp 0)⟩,
     ⟨some 56, none, .mv (.tmp 0)⟩,
     ⟨some 57, none, .nil (.tmp 56)⟩,
     ⟨some 58, none, .fld 5 (.tmp 57)⟩,
     ⟨some 59, none, .load1 (.tmp 58)⟩,
     ⟨some 60, none, .call n_term_Term_move [(.tmp 55), (.tmp 59), (.const (.int .i64 0))]⟩]))),
 []⟩

/-- (*grid.Grid).Delete -/
def a_grid_Grid_Delete : AFn := ⟨49,
 (.seq
  (.ops [
    ⟨some 9, none, .box t_grid_Cell (.tmp 4)⟩,
    ⟨some 10, none, .mv (.const (.int .i64 0))⟩])
  (.seq
   (.seq
    (.ops [
      ⟨some 13, none, .mv (.tmp 0)⟩,
      ⟨some 14, none, .mv (.tmp 1)⟩,
      ⟨some 15, none, .mv (.tmp 2)⟩,
      ⟨some 16, none, .mv (.tmp 3)⟩,
      ⟨some 17, none, .call n_grid_Grid_cells [(.tmp 13), (.tmp 14), (.tmp 15), (.tmp 16)]⟩,
      ⟨some 11, none, .mv (.tmp 17)⟩])
    (.seq
     (.ops [
       ⟨some 18, none, .mv (.tmp 11)⟩,
       ⟨some 19, none, .bin .neq t_api_Errno (.tmp 18) (.const (.int .i64 0))⟩])
     (.cond (.tmp 19)
      (.seq
       (.ops [
         ⟨some 20, none, .mv (.tmp 11)⟩,
         ⟨some 10, none, .mv (.tmp 20)⟩])
       (.ret))
      (.skip))))
   (.seq
    (.ops [
      ⟨some 21, none, .mv (.tmp 0)⟩,
      ⟨some 22, none, .nil (.tmp 21)⟩,
      ⟨some 23, none, .fld 1 (.tmp 22)⟩,
      ⟨some 24, none, .load1 (.tmp 23)⟩,
      ⟨some 25, none, .mv (.tmp 1)⟩,
      ⟨some 26, none, .idxS 1 (.tmp 24) (.tmp 25)⟩,
      ⟨some 27, none, .load1 (.tmp 26)⟩,
      ⟨some 28, none, .mv (.tmp 2)⟩,
      ⟨some 29, none, .gen (.slice t_S_grid_Cell (.tmp 27) (some (.tmp 28)) none none) t_S_grid_Cell⟩,
      ⟨some 12, none, .mv (.tmp 29)⟩])
    (.seq
     (.ops [
       ⟨some 30, none, .mv (.tmp 3)⟩,
       ⟨some 31, none, .mv (.tmp 12)⟩,
       ⟨some 32, none, .len (.tmp 31)⟩,
       ⟨some 33, none, .gen (.call ⟨.builtin .min, #[(.tmp 30), (.tmp 32)], #[t_int, t_int]⟩) t_int⟩,
       ⟨some 3, none, .mv (.tmp 33)⟩])
     (.seq
      (.ops [
        ⟨some 34, none, .mv (.tmp 12)⟩,
        ⟨some 35, none, .mv (.tmp 12)⟩,
        ⟨some 36, none, .mv (.tmp 3)⟩,
        ⟨some 37, none, .gen (.slice t_S_grid_Cell (.tmp 35) (some (.tmp 36)) none none) t_S_grid_Cell⟩,
        ⟨some 38, none, .gen (.call ⟨.builtin .copy, #[(.tmp 34), (.tmp 37)], #[t_S_grid_Cell, t_S_grid_Cell]⟩) t_int⟩])
      (.seq
       (.plan [
         (⟨some 39, none, .mv (.tmp 12)⟩, []),
         (⟨some 40, none, .mv (.tmp 12)⟩, []),
         (⟨some 41, none, .len (.tmp 40)⟩, []),
         (⟨some 42, none, .mv (.tmp 3)⟩, []),
         (⟨some 43, none, .bin .sub t_int (.tmp 41) (.tmp 42)⟩, []),
         (⟨some 44, none, .gen (.slice t_S_grid_Cell (.tmp 39) (some (.tmp 43)) none none) t_S_grid_Cell⟩, []),
         (⟨some 45, none, .mv (.tmp 3)⟩, []),
         (⟨some 46, none, .loadN 4 (.tmp 9)⟩, []),
         (⟨some 47, none, .call n_grid_line [(.tmp 45), (.tmp 46)]⟩, [⟨some 44, none, .gen (.slice t_S_grid_Cell (.tmp 39) (some (.tmp 43)) none none) t_S_grid_Cell⟩]),
         (⟨some 48, none, .gen (.call ⟨.builtin .copy, #[(.tmp 44), (.tmp 47)], #[t_S_grid_Cell, t_S_grid_Cell]⟩) t_int⟩, [])])
       (.seq
        (.ops [
          ⟨some 10, none, .mv (.const (.int .i64 0))⟩])
        (.ret)))))))),
 [.tmp 10]⟩

/-- style.Change -/
def a_style_Change : AFn := ⟨53,
 (.seq
  (.ops [
    ⟨some 2, none, .box t_style_Style (.tmp 0)⟩,
    ⟨some 4, none, .new t_style_Style [(.int .u8 0), (.int .u32 0), (.int .u32 0)]⟩])
  (.seq
   (.seq
    (.ops [
      ⟨some 10, none, .mv (.tmp 1)⟩,
      ⟨some 11, none, .len (.tmp 10)⟩,
      ⟨some 12, none, .bin .eql t_int (.tmp 11) (.const (.int .i64 0))⟩])
    (.cond (.tmp 12)
     (.seq
      (.ops [
        ⟨some 13, none, .gen (.build t_style_Style #[]) t_style_Style⟩,
        ⟨none, none, .store 3 (.tmp 4) (.tmp 13)⟩])
      (.ret))
     (.skip)))
   (.seq
    (.ops [
      ⟨some 14, none, .mv (.tmp 1)⟩,
      ⟨some 5, none, .mv (.tmp 14)⟩])
    (.seq
     (.skip)
     (.seq
      (.block 0
       (.loop
        (.seq
         (.seq
          (.ops [
            ⟨some 15, none, .mv (.tmp 5)⟩,
            ⟨some 16, none, .len (.tmp 15)⟩,
            ⟨some 17, none, .bin .gtr t_int (.tmp 16) (.const (.int .i64 0))⟩])
          (.cond (.tmp 17)
           (.skip)
           (.exit 0)))
         (.block 1
          (.seq
           (.ops [
             ⟨some 18, none, .mv (.tmp 5)⟩,
             ⟨some 19, none, .idxS 1 (.tmp 18) (.const (.int .i64 0))⟩,
             ⟨some 20, none, .load1 (.tmp 19)⟩,
             ⟨some 6, none, .mv (.tmp 20)⟩])
           (.seq
            (.ops [
              ⟨some 21, none, .mv (.tmp 5)⟩,
              ⟨some 22, none, .gen (.slice t_S_int (.tmp 21) (some (.const (.int .i64 1))) none none) t_S_int⟩,
              ⟨some 5, none, .mv (.tmp 22)⟩])
            (.seq
             (.seq
              (.ops [
                ⟨some 23, none, .mv (.tmp 6)⟩,
                ⟨some 24, none, .bin .neq t_int (.tmp 23) (.const (.int .i64 38))⟩,
                ⟨some 25, none, .mv (.tmp 24)⟩,
                ⟨some 26, some (25, true), .mv (.tmp 6)⟩,
                ⟨some 27, some (25, true), .bin .neq t_int (.tmp 26) (.const (.int .i64 48))⟩,
                ⟨some 28, none, .pick (.tmp 25) (.tmp 27) (.const (.bool false))⟩])
              (.cond (.tmp 28)
               (.seq
                (.ops [
                  ⟨some 29, none, .mv (.tmp 6)⟩,
                  ⟨some 30, none, .call n_style_Style_plain [(.tmp 2), (.tmp 29)]⟩])
                (.exit 1))
               (.skip)))
             (.seq
              (.ops [
                ⟨some 32, none, .mv (.tmp 5)⟩,
                ⟨some 33, none, .call n_style_colour [(.tmp 32)]⟩,
                ⟨some 31, none, .mv (.tmp 33)⟩,
                ⟨some 34, none, .ext (.tmp 31) 0⟩,
                ⟨some 35, none, .ext (.tmp 31) 1⟩,
                ⟨some 36, none, .ext (.tmp 31) 2⟩,
                ⟨some 7, none, .mv (.tmp 34)⟩,
                ⟨some 8, none, .mv (.tmp 35)⟩,
                ⟨some 9, none, .mv (.tmp 36)⟩])
              (.seq
               (.ops [
                 ⟨some 37, none, .mv (.tmp 5)⟩,
                 ⟨some 38, none, .mv (.tmp 8)⟩,
                 ⟨some 39, none, .gen (.slice t_S_int (.tmp 37) (some (.tmp 38)) none none) t_S_int⟩,
                 ⟨some 5, none, .mv (.tmp 39)⟩])
               (.block 2
                (.seq
                 (.ops [
                   ⟨some 41, none, .mv (.tmp 9)⟩,
                   ⟨some 42, none, .mv (.tmp 41)⟩,
                   ⟨some 43, some (42, true), .mv (.tmp 6)⟩,
                   ⟨some 44, some (42, true), .bin .eql t_int (.tmp 43) (.const (.int .i64 38))⟩,
                   ⟨some 45, none, .pick (.tmp 42) (.tmp 44) (.const (.bool false))⟩,
                   ⟨some 40, none, .mv (.tmp 45)⟩])
                 (.cond (.tmp 40)
                  (.ops [
                    ⟨some 46, none, .mv (.tmp 7)⟩,
                    ⟨some 47, none, .fld 1 (.tmp 2)⟩,
                    ⟨none, none, .store 1 (.tmp 47) (.tmp 46)⟩])
                  (.seq
                   (.ops [
                     ⟨some 49, none, .mv (.tmp 9)⟩,
                     ⟨some 48, none, .mv (.tmp 49)⟩])
                   (.cond (.tmp 48)
                    (.ops [
                      ⟨some 50, none, .mv (.tmp 7)⟩,
                      ⟨some 51, none, .fld 2 (.tmp 2)⟩,
                      ⟨none, none, .store 1 (.tmp 51) (.tmp 50)⟩])
                    (.skip)))))))))))))))
      (.seq
       (.ops [
         ⟨some 52, none, .loadN 3 (.tmp 2)⟩,
         ⟨none, none, .store 3 (.tmp 4) (.tmp 52)⟩])
       (.ret))))))),
 [.cell 4 t_style_Style]⟩

/-- slices.Contains[[]int,int] -/
def a_slices_Contains_int_int : AFn := ⟨9,
 (.seq
  (.ops [
    ⟨some 4, none, .mv (.const (.bool false))⟩])
  (.seq
   (.ops [
     ⟨some 5, none, .mv (.tmp 0)⟩,
     ⟨some 6, none, .mv (.tmp 1)⟩,
     ⟨some 7, none, .call n_slices_Index_int_int [(.tmp 5), (.tmp 6)]⟩,
     ⟨some 8, none, .bin .geq t_int (.tmp 7) (.const (.int .i64 0))⟩,
     ⟨some 4, none, .mv (.tmp 8)⟩])
   (.ret))),
 [.tmp 4]⟩

/-- strings.HasPrefix -/
def a_strings_HasPrefix : AFn := ⟨8,
 (.seq
  (.ops [
    ⟨some 4, none, .mv (.const (.bool false))⟩])
  (.seq
   (.ops [
     ⟨some 5, none, .mv (.tmp 0)⟩,
     ⟨some 6, none, .mv (.tmp 1)⟩,
     ⟨some 7, none, .call n_stringslite_HasPrefix [(.tmp 5), (.tmp 6)]⟩,
     ⟨some 4, none, .mv (.tmp 7)⟩])
   (.ret))),
 [.tmp 4]⟩

/-- osc.Cut -/
def a_osc_Cut : AFn := ⟨26,
 (.seq
  (.ops [
    ⟨some 4, none, .mv (.const (.string .empty))⟩])
  (.seq
   (.seq
    (.ops [
      ⟨some 6, none, .mv (.tmp 0)⟩,
      ⟨some 7, none, .gen (.call ⟨.builtin .len, #[(.tmp 6)], #[t_string]⟩) t_int⟩,
      ⟨some 8, none, .mv (.tmp 1)⟩,
      ⟨some 9, none, .bin .leq t_int (.tmp 7) (.tmp 8)⟩])
    (.cond (.tmp 9)
     (.seq
      (.ops [
        ⟨some 10, none, .mv (.tmp 0)⟩,
        ⟨some 4, none, .mv (.tmp 10)⟩])
      (.ret))
     (.skip)))
   (.seq
    (.ops [
      ⟨some 11, none, .mv (.tmp 1)⟩,
      ⟨some 12, none, .gen (.call ⟨.builtin .max, #[(.tmp 11), (.const (.int .i64 0))], #[t_int, t_int]⟩) t_int⟩,
      ⟨some 5, none, .mv (.tmp 12)⟩])
    (.seq
     (.block 0
      (.loop
       (.seq
        (.seq
         (.ops [
           ⟨some 13, none, .mv (.tmp 5)⟩,
           ⟨some 14, none, .bin .gtr t_int (.tmp 13) (.const (.int .i64 0))⟩,
           ⟨some 15, none, .mv (.tmp 14)⟩,
           ⟨some 16, some (15, true), .mv (.tmp 0)⟩,
           ⟨some 17, some (15, true), .mv (.tmp 5)⟩,
           ⟨some 18, some (15, true), .gen (.index t_string (.tmp 16) (.tmp 17)) t_uint8⟩,
           ⟨some 19, some (15, true), .call n_osc_follows [(.tmp 18)]⟩,
           ⟨some 20, none, .pick (.tmp 15) (.tmp 19) (.const (.bool false))⟩])
         (.cond (.tmp 20)
          (.skip)
          (.exit 0)))
        (.block 1
         (.ops [
           ⟨some 21, none, .mv (.tmp 5)⟩,
           ⟨some 22, none, .bin .sub t_int (.tmp 21) (.const (.int .i64 1))⟩,
           ⟨some 5, none, .mv (.tmp 22)⟩])))))
     (.seq
      (.ops [
        ⟨some 23, none, .mv (.tmp 0)⟩,
        ⟨some 24, none, .mv (.tmp 5)⟩,
        ⟨some 25, none, .gen (.slice t_string (.tmp 23) none (some (.tmp 24)) none) t_string⟩,
        ⟨some 4, none, .mv (.tmp 25)⟩])
      (.ret)))))),
 [.tmp 4]⟩

/-- osc.clip -/
def a_osc_clip : AFn := ⟨49,
 (.seq
  (.ops [
    ⟨some 2, none, .new t_osc_Ask [(.int .i64 0), (.string .empty)]⟩,
    ⟨some 3, none, .mv (.const (.int .i64 0))⟩])
  (.seq
   (.ops [
     ⟨some 4, none, .mv (.const (.int .i64 0))⟩])
   (.seq
    (.skip)
    (.seq
     (.block 0
      (.loop
       (.seq
        (.seq
         (.ops [
           ⟨some 7, none, .mv (.tmp 4)⟩,
           ⟨some 8, none, .mv (.tmp 0)⟩,
           ⟨some 9, none, .gen (.call ⟨.builtin .len, #[(.tmp 8)], #[t_string]⟩) t_int⟩,
           ⟨some 10, none, .bin .lss t_int (.tmp 7) (.tmp 9)⟩])
         (.cond (.tmp 10)
          (.skip)
          (.exit 0)))
        (.block 1
         (.seq
          (.seq
           (.ops [
             ⟨some 11, none, .mv (.tmp 0)⟩,
             ⟨some 12, none, .mv (.tmp 4)⟩,
             ⟨some 13, none, .gen (.index t_string (.tmp 11) (.tmp 12)) t_uint8⟩,
             ⟨some 14, none, .call n_strings_IndexByte [(.const (.string ⟨#[99, 112, 115, 113, 48, 49, 50, 51, 52, 53, 54, 55, 56, 57]⟩)), (.tmp 13)]⟩,
             ⟨some 15, none, .bin .lss t_int (.tmp 14) (.const (.int .i64 0))⟩])
           (.cond (.tmp 15)
            (.exit 0)
            (.skip)))
          (.ops [
            ⟨some 16, none, .mv (.tmp 4)⟩,
            ⟨some 17, none, .bin .add t_int (.tmp 16) (.const (.int .i64 1))⟩,
            ⟨some 4, none, .mv (.tmp 17)⟩]))))))
     (.seq
      (.seq
       (.ops [
         ⟨some 18, none, .mv (.tmp 4)⟩,
         ⟨some 19, none, .mv (.tmp 0)⟩,
         ⟨some 20, none, .gen (.call ⟨.builtin .len, #[(.tmp 19)], #[t_string]⟩) t_int⟩,
         ⟨some 21, none, .bin .eql t_int (.tmp 18) (.tmp 20)⟩,
         ⟨some 22, none, .mv (.tmp 21)⟩,
         ⟨some 23, some (22, false), .mv (.tmp 0)⟩,
         ⟨some 24, some (22, false), .mv (.tmp 4)⟩,
         ⟨some 25, some (22, false), .gen (.index t_string (.tmp 23) (.tmp 24)) t_uint8⟩,
         ⟨some 26, some (22, false), .bin .neq t_uint8 (.tmp 25) (.const (.int .u8 59))⟩,
         ⟨some 27, none, .pick (.tmp 22) (.const (.bool true)) (.tmp 26)⟩])
       (.cond (.tmp 27)
        (.seq
         (.ops [
           ⟨some 28, none, .gen (.build t_osc_Ask #[]) t_osc_Ask⟩,
           ⟨none, none, .store 2 (.tmp 2) (.tmp 28)⟩,
           ⟨some 3, none, .mv (.const (.int .i64 3))⟩])
         (.ret))
        (.skip)))
      (.seq
       (.ops [
         ⟨some 30, none, .mv (.tmp 0)⟩,
         ⟨some 31, none, .mv (.tmp 4)⟩,
         ⟨some 32, none, .bin .add t_int (.tmp 31) (.const (.int .i64 1))⟩,
         ⟨some 33, none, .gen (.slice t_string (.tmp 30) (some (.tmp 32)) none none) t_string⟩,
         ⟨some 34, none, .call n_base_Read [(.tmp 33)]⟩,
         ⟨some 29, none, .mv (.tmp 34)⟩,
         ⟨some 35, none, .ext (.tmp 29) 0⟩,
         ⟨some 36, none, .ext (.tmp 29) 1⟩,
         ⟨some 5, none, .mv (.tmp 35)⟩,
         ⟨some 6, none, .mv (.tmp 36)⟩])
       (.seq
        (.block 2
         (.seq
          (.ops [
            ⟨some 38, none, .mv (.tmp 6)⟩,
            ⟨some 39, none, .bin .neq t_api_Errno (.tmp 38) (.const (.int .i64 0))⟩,
            ⟨some 37, none, .mv (.tmp 39)⟩])
          (.cond (.tmp 37)
           (.seq
            (.ops [
              ⟨some 40, none, .gen (.build t_osc_Ask #[]) t_osc_Ask⟩,
              ⟨none, none, .store 2 (.tmp 2) (.tmp 40)⟩,
              ⟨some 3, none, .mv (.const (.int .i64 3))⟩])
            (.ret))
           (.seq
            (.ops [
              ⟨some 42, none, .mv (.tmp 5)⟩,
              ⟨some 43, none, .len (.tmp 42)⟩,
              ⟨some 44, none, .bin .gtr t_int (.tmp 43) (.const (.int .i64 256))⟩,
              ⟨some 41, none, .mv (.tmp 44)⟩])
            (.cond (.tmp 41)
             (.seq
              (.ops [
                ⟨some 45, none, .gen (.build t_osc_Ask #[]) t_osc_Ask⟩,
                ⟨none, none, .store 2 (.tmp 2) (.tmp 45)⟩,
                ⟨some 3, none, .mv (.const (.int .i64 2))⟩])
              (.ret))
             (.skip))))))
        (.seq
         (.ops [
           ⟨some 46, none, .mv (.tmp 5)⟩,
           ⟨some 47, none, .gen (.convert t_S_uint8 t_string (.tmp 46)) t_string⟩,
           ⟨some 48, none, .gen (.build t_osc_Ask #[(0, (.const (.int .i64 2))), (1, (.tmp 47))]) t_osc_Ask⟩,
           ⟨none, none, .store 2 (.tmp 2) (.tmp 48)⟩,
           ⟨some 3, none, .mv (.const (.int .i64 0))⟩])
         (.ret))))))))),
 [.cell 2 t_osc_Ask, .tmp 3]⟩

/-- vint.Size -/
def a_vint_Size : AFn := ⟨10,
 (.seq
  (.ops [
    ⟨some 2, none, .mv (.const (.int .i64 0))⟩])
  (.seq
   (.ops [
     ⟨some 4, none, .mv (.tmp 0)⟩,
     ⟨some 5, none, .call n_vint_class [(.tmp 4)]⟩,
     ⟨some 3, none, .mv (.tmp 5)⟩])
   (.seq
    (.seq
     (.ops [
       ⟨some 6, none, .mv (.tmp 3)⟩,
       ⟨some 7, none, .bin .eql t_int (.tmp 6) (.const (.int .i64 4))⟩])
     (.cond (.tmp 7)
      (.seq
       (.ops [
         ⟨some 2, none, .mv (.const (.int .i64 0))⟩])
       (.ret))
      (.skip)))
    (.seq
     (.ops [
       ⟨some 8, none, .mv (.tmp 3)⟩,
       ⟨some 9, none, .gen (.binOp .shl t_int (.const (.int .i64 1)) (.tmp 8) t_int) t_int⟩,
       ⟨some 2, none, .mv (.tmp 9)⟩])
     (.ret))))),
 [.tmp 2]⟩

/-- vint.class -/
def a_vint_class : AFn := ⟨16,
 (.seq
  (.ops [
    ⟨some 2, none, .mv (.const (.int .i64 0))⟩])
  (.seq
   (.ops [
     ⟨some 5, none, .call n_vint_tops []⟩,
     ⟨some 3, none, .new t_4_uint64 [(.int .u64 0), (.int .u64 0), (.int .u64 0), (.int .u64 0)]⟩,
     ⟨none, none, .store 4 (.tmp 3) (.tmp 5)⟩])
   (.seq
    (.ops [
      ⟨some 4, none, .mv (.const (.int .i64 0))⟩])
    (.seq
     (.skip)
     (.seq
      (.block 0
       (.loop
        (.seq
         (.seq
          (.ops [
            ⟨some 6, none, .mv (.tmp 4)⟩,
            ⟨some 7, none, .bin .lss t_int (.tmp 6) (.const (.int .i64 4))⟩])
          (.cond (.tmp 7)
           (.skip)
           (.exit 0)))
         (.block 1
          (.seq
           (.seq
            (.ops [
              ⟨some 8, none, .mv (.tmp 0)⟩,
              ⟨some 9, none, .mv (.tmp 4)⟩,
              ⟨some 10, none, .idxA 4 1 (.tmp 3) (.tmp 9)⟩,
              ⟨some 11, none, .load1 (.tmp 10)⟩,
              ⟨some 12, none, .bin .lss t_uint64 (.tmp 8) (.tmp 11)⟩])
            (.cond (.tmp 12)
             (.exit 0)
             (.skip)))
           (.ops [
             ⟨some 13, none, .mv (.tmp 4)⟩,
             ⟨some 14, none, .bin .add t_int (.tmp 13) (.const (.int .i64 1))⟩,
             ⟨some 4, none, .mv (.tmp 14)⟩]))))))
      (.seq
       (.ops [
         ⟨some 15, none, .mv (.tmp 4)⟩,
         ⟨some 2, none, .mv (.tmp 15)⟩])
       (.ret))))))),
 [.tmp 2]⟩

/-- style.Write -/
def a_style_Write : AFn := ⟨37,
 (.seq
  (.ops [
    ⟨some 1, none, .box t_style_Style (.tmp 0)⟩,
    ⟨some 2, none, .mv (.const (.slice none 0 0))⟩,
    ⟨some 3, none, .mv (.const (.int .i64 0))⟩])
  (.seq
   (.seq
    (.ops [
      ⟨some 9, none, .loadN 3 (.tmp 1)⟩,
      ⟨some 10, none, .call n_style_Right [(.tmp 9)]⟩,
      ⟨some 11, none, .not (.tmp 10)⟩])
    (.cond (.tmp 11)
     (.seq
      (.ops [
        ⟨some 2, none, .mv (.const (.slice none 0 0))⟩,
        ⟨some 3, none, .mv (.const (.int .i64 3))⟩])
      (.ret))
     (.skip)))
   (.seq
    (.ops [
      ⟨some 12, none, .fld 0 (.tmp 1)⟩,
      ⟨some 13, none, .load1 (.tmp 12)⟩,
      ⟨some 14, none, .gen (.buildSlice t_S_uint8 1 #[(0, (.tmp 13))]) t_S_uint8⟩,
      ⟨some 4, none, .mv (.tmp 14)⟩])
    (.seq
     (.seq
      (.ops [
        ⟨some 15, none, .fld 1 (.tmp 1)⟩,
        ⟨some 16, none, .load1 (.tmp 15)⟩,
        ⟨some 17, none, .fld 2 (.tmp 1)⟩,
        ⟨some 18, none, .load1 (.tmp 17)⟩,
        ⟨some 19, none, .gen (.build t_2_uint32 #[(0, (.tmp 16)), (1, (.tmp 18))]) t_2_uint32⟩,
        ⟨some 20, none, .mv (.const (.int .i64 0))⟩])
      (.block 0
       (.loop
        (.seq
         (.ops [
           ⟨some 21, none, .bin .lss t_int (.tmp 20) (.const (.int .i64 2))⟩])
         (.seq
          (.cond (.tmp 21)
           (.skip)
           (.exit 0))
          (.seq
           (.block 1
            (.seq
             (.ops [
               ⟨some 22, none, .gen (.index t_2_uint32 (.tmp 19) (.tmp 20)) t_uint32⟩,
               ⟨some 6, none, .mv (.tmp 22)⟩])
             (.seq
              (.ops [
                ⟨some 24, none, .mv (.tmp 6)⟩,
                ⟨some 25, none, .gen (.convert t_uint32 t_uint64 (.tmp 24)) t_uint64⟩,
                ⟨some 26, none, .call n_vint_Put [(.tmp 25)]⟩,
                ⟨some 23, none, .mv (.tmp 26)⟩,
                ⟨some 27, none, .ext (.tmp 23) 0⟩,
                ⟨some 28, none, .ext (.tmp 23) 1⟩,
                ⟨some 7, none, .mv (.tmp 27)⟩,
                ⟨some 8, none, .mv (.tmp 28)⟩])
              (.seq
               (.seq
                (.ops [
                  ⟨some 29, none, .mv (.tmp 8)⟩,
                  ⟨some 30, none, .bin .neq t_api_Errno (.tmp 29) (.const (.int .i64 0))⟩])
                (.cond (.tmp 30)
                 (.seq
                  (.ops [
                    ⟨some 31, none, .mv (.tmp 8)⟩,
                    ⟨some 2, none, .mv (.const (.slice none 0 0))⟩,
                    ⟨some 3, none, .mv (.tmp 31)⟩])
                  (.ret))
                 (.skip)))
               (.ops [
                 ⟨some 32, none, .mv (.tmp 4)⟩,
                 ⟨some 33, none, .mv (.tmp 7)⟩,
                 ⟨some 34, none, .gen (.call ⟨.builtin .append, #[(.tmp 32), (.tmp 33)], #[t_S_uint8, t_S_uint8]⟩) t_S_uint8⟩,
                 ⟨some 4, none, .mv (.tmp 34)⟩])))))
           (.ops [
             ⟨some 35, none, .bin .add t_int (.tmp 20) (.const (.int .i64 1))⟩,
             ⟨some 20, none, .mv (.tmp 35)⟩])))))))
     (.seq
      (.ops [
        ⟨some 36, none, .mv (.tmp 4)⟩,
        ⟨some 2, none, .mv (.tmp 36)⟩,
        ⟨some 3, none, .mv (.const (.int .i64 0))⟩])
      (.ret)))))),
 [.tmp 2, .tmp 3]⟩

/-- style.Read -/
def a_style_Read : AFn := ⟨70,
 (.seq
  (.ops [
    ⟨some 4, none, .new t_style_Style [(.int .u8 0), (.int .u32 0), (.int .u32 0)]⟩,
    ⟨some 5, none, .mv (.const (.int .i64 0))⟩,
    ⟨some 6, none, .mv (.const (.int .i64 0))⟩])
  (.seq
   (.block 0
    (.seq
     (.ops [
       ⟨some 15, none, .mv (.tmp 1)⟩,
       ⟨some 16, none, .bin .lss t_int (.tmp 15) (.const (.int .i64 0))⟩,
       ⟨some 17, none, .mv (.tmp 16)⟩,
       ⟨some 18, some (17, false), .mv (.tmp 1)⟩,
       ⟨some 19, some (17, false), .mv (.tmp 0)⟩,
       ⟨some 20, some (17, false), .len (.tmp 19)⟩,
       ⟨some 21, some (17, false), .bin .gtr t_int (.tmp 18) (.tmp 20)⟩,
       ⟨some 22, none, .pick (.tmp 17) (.const (.bool true)) (.tmp 21)⟩,
       ⟨some 14, none, .mv (.tmp 22)⟩])
     (.cond (.tmp 14)
      (.seq
       (.ops [
         ⟨some 23, none, .gen (.build t_style_Style #[]) t_style_Style⟩,
         ⟨none, none, .store 3 (.tmp 4) (.tmp 23)⟩,
         ⟨some 5, none, .mv (.const (.int .i64 0))⟩,
         ⟨some 6, none, .mv (.const (.int .i64 1))⟩])
       (.ret))
      (.seq
       (.ops [
         ⟨some 25, none, .mv (.tmp 1)⟩,
         ⟨some 26, none, .mv (.tmp 0)⟩,
         ⟨some 27, none, .len (.tmp 26)⟩,
         ⟨some 28, none, .bin .eql t_int (.tmp 25) (.tmp 27)⟩,
         ⟨some 24, none, .mv (.tmp 28)⟩])
       (.cond (.tmp 24)
        (.seq
         (.ops [
           ⟨some 29, none, .gen (.build t_style_Style #[]) t_style_Style⟩,
           ⟨none, none, .store 3 (.tmp 4) (.tmp 29)⟩,
           ⟨some 5, none, .mv (.const (.int .i64 0))⟩,
           ⟨some 6, none, .mv (.const (.int .i64 10))⟩])
         (.ret))
        (.skip))))))
   (.seq
    (.ops [
      ⟨some 7, none, .new t_2_uint64 [(.int .u64 0), (.int .u64 0)]⟩])
    (.seq
     (.ops [
       ⟨some 30, none, .mv (.tmp 1)⟩,
       ⟨some 31, none, .bin .add t_int (.tmp 30) (.const (.int .i64 1))⟩,
       ⟨some 8, none, .mv (.tmp 31)⟩])
     (.seq
      (.seq
       (.ops [
         ⟨some 32, none, .mv (.const (.int .i64 0))⟩])
       (.block 1
        (.loop
         (.seq
          (.ops [
            ⟨some 33, none, .bin .lss t_int (.tmp 32) (.const (.int .i64 2))⟩])
          (.seq
           (.cond (.tmp 33)
            (.skip)
            (.exit 1))
           (.seq
            (.block 2
             (.seq
              (.ops [
                ⟨some 34, none, .mv (.tmp 32)⟩,
                ⟨some 9, none, .mv (.tmp 34)⟩])
              (.seq
               (.ops [
                 ⟨some 36, none, .mv (.tmp 0)⟩,
                 ⟨some 37, none, .mv (.tmp 8)⟩,
                 ⟨some 38, none, .call n_vint_Get [(.tmp 36), (.tmp 37)]⟩,
                 ⟨some 35, none, .mv (.tmp 38)⟩,
                 ⟨some 39, none, .ext (.tmp 35) 0⟩,
                 ⟨some 40, none, .ext (.tmp 35) 1⟩,
                 ⟨some 41, none, .ext (.tmp 35) 2⟩,
                 ⟨some 10, none, .mv (.tmp 39)⟩,
                 ⟨some 11, none, .mv (.tmp 40)⟩,
                 ⟨some 12, none, .mv (.tmp 41)⟩])
               (.seq
                (.seq
                 (.ops [
                   ⟨some 42, none, .mv (.tmp 12)⟩,
                   ⟨some 43, none, .bin .neq t_api_Errno (.tmp 42) (.const (.int .i64 0))⟩])
                 (.cond (.tmp 43)
                  (.seq
                   (.ops [
                     ⟨some 44, none, .gen (.build t_style_Style #[]) t_style_Style⟩,
                     ⟨some 45, none, .mv (.tmp 12)⟩,
                     ⟨none, none, .store 3 (.tmp 4) (.tmp 44)⟩,
                     ⟨some 5, none, .mv (.const (.int .i64 0))⟩,
                     ⟨some 6, none, .mv (.tmp 45)⟩])
                   (.ret))
                  (.skip)))
                (.ops [
                  ⟨some 46, none, .mv (.tmp 9)⟩,
                  ⟨some 47, none, .mv (.tmp 10)⟩,
                  ⟨some 48, none, .mv (.tmp 11)⟩,
                  ⟨some 49, none, .idxA 2 1 (.tmp 7) (.tmp 46)⟩,
                  ⟨none, none, .store 1 (.tmp 49) (.tmp 47)⟩,
                  ⟨some 8, none, .mv (.tmp 48)⟩])))))
            (.ops [
              ⟨some 50, none, .bin .add t_int (.tmp 32) (.const (.int .i64 1))⟩,
              ⟨some 32, none, .mv (.tmp 50)⟩])))))))
      (.seq
       (.plan [
         (⟨some 51, none, .mv (.tmp 0)⟩, []),
         (⟨some 52, none, .mv (.tmp 1)⟩, []),
         (⟨some 53, none, .idxS 1 (.tmp 51) (.tmp 52)⟩, []),
         (⟨some 54, none, .load1 (.tmp 53)⟩, []),
         (⟨some 55, none, .idxA 2 1 (.tmp 7) (.const (.int .i64 0))⟩, []),
         (⟨some 56, none, .load1 (.tmp 55)⟩, []),
         (⟨some 57, none, .gen (.call ⟨.builtin .min, #[(.tmp 56), (.const (.int .u64 2147483648))], #[t_uint64, t_uint64]⟩) t_uint64⟩, []),
         (⟨some 58, none, .gen (.convert t_uint64 t_uint32 (.tmp 57)) t_uint32⟩, []),
         (⟨some 59, none, .idxA 2 1 (.tmp 7) (.const (.int .i64 1))⟩, []),
         (⟨some 60, none, .load1 (.tmp 59)⟩, []),
         (⟨some 61, none, .gen (.call ⟨.builtin .min, #[(.tmp 60), (.const (.int .u64 2147483648))], #[t_uint64, t_uint64]⟩) t_uint64⟩, []),
         (⟨some 62, none, .gen (.convert t_uint64 t_uint32 (.tmp 61)) t_uint32⟩, []),
         (⟨some 63, none, .gen (.build t_style_Style #[(0, (.tmp 54)), (1, (.tmp 58)), (2, (.tmp 62))]) t_style_Style⟩, []),
         (⟨some 13, none, .new t_style_Style [(.int .u8 0), (.int .u32 0), (.int .u32 0)]⟩, [⟨some 54, none, .load1 (.tmp 53)⟩, ⟨some 56, none, .load1 (.tmp 55)⟩, ⟨some 60, none, .load1 (.tmp 59)⟩]),
         (⟨none, none, .store 3 (.tmp 13) (.tmp 63)⟩, [])])
       (.seq
        (.seq
         (.ops [
           ⟨some 64, none, .loadN 3 (.tmp 13)⟩,
           ⟨some 65, none, .call n_style_Right [(.tmp 64)]⟩,
           ⟨some 66, none, .not (.tmp 65)⟩])
         (.cond (.tmp 66)
          (.seq
           (.ops [
             ⟨some 67, none, .gen (.build t_style_Style #[]) t_style_Style⟩,
             ⟨none, none, .store 3 (.tmp 4) (.tmp 67)⟩,
             ⟨some 5, none, .mv (.const (.int .i64 0))⟩,
             ⟨some 6, none, .mv (.const (.int .i64 3))⟩])
           (.ret))
          (.skip)))
        (.seq
         (.ops [
           ⟨some 68, none, .loadN 3 (.tmp 13)⟩,
           ⟨some 69, none, .mv (.tmp 8)⟩,
           ⟨none, none, .store 3 (.tmp 4) (.tmp 68)⟩,
           ⟨some 5, none, .mv (.tmp 69)⟩,
           ⟨some 6, none, .mv (.const (.int .i64 0))⟩])
         (.ret))))))))),
 [.cell 4 t_style_Style, .tmp 5, .tmp 6]⟩

/-- math/bits.Mul -/
def a_math_bits_Mul : AFn := ⟨30,
 (.seq
  (.ops [
    ⟨some 4, none, .mv (.const (.int .u64 0))⟩,
    ⟨some 5, none, .mv (.const (.int .u64 0))⟩])
  (.seq
   (.cond (.const (.bool false))
    (.seq
     (.ops [
       ⟨some 11, none, .mv (.tmp 0)⟩,
       ⟨some 12, none, .gen (.convert t_uint t_uint32 (.tmp 11)) t_uint32⟩,
       ⟨some 13, none, .mv (.tmp 1)⟩,
       ⟨some 14, none, .gen (.convert t_uint t_uint32 (.tmp 13)) t_uint32⟩,
       ⟨some 15, none, .call n_math_bits_Mul32 [(.tmp 12), (.tmp 14)]⟩,
       ⟨some 10, none, .mv (.tmp 15)⟩,
       ⟨some 16, none, .ext (.tmp 10) 0⟩,
       ⟨some 17, none, .ext (.tmp 10) 1⟩,
       ⟨some 6, none, .mv (.tmp 16)⟩,
       ⟨some 7, none, .mv (.tmp 17)⟩])
     (.seq
      (.ops [
        ⟨some 18, none, .mv (.tmp 6)⟩,
        ⟨some 19, none, .gen (.convert t_uint32 t_uint (.tmp 18)) t_uint⟩,
        ⟨some 20, none, .mv (.tmp 7)⟩,
        ⟨some 21, none, .gen (.convert t_uint32 t_uint (.tmp 20)) t_uint⟩,
        ⟨some 4, none, .mv (.tmp 19)⟩,
        ⟨some 5, none, .mv (.tmp 21)⟩])
      (.ret)))
    (.skip))
   (.seq
    (.ops [
      ⟨some 23, none, .mv (.tmp 0)⟩,
      ⟨some 24, none, .mv (.tmp 1)⟩,
      ⟨some 25, none, .call n_math_bits_Mul64 [(.tmp 23), (.tmp 24)]⟩,
      ⟨some 22, none, .mv (.tmp 25)⟩,
      ⟨some 26, none, .ext (.tmp 22) 0⟩,
      ⟨some 27, none, .ext (.tmp 22) 1⟩,
      ⟨some 8, none, .mv (.tmp 26)⟩,
      ⟨some 9, none, .mv (.tmp 27)⟩])
    (.seq
     (.ops [
       ⟨some 28, none, .mv (.tmp 8)⟩,
       ⟨some 29, none, .mv (.tmp 9)⟩,
       ⟨some 4, none, .mv (.tmp 28)⟩,
       ⟨some 5, none, .mv (.tmp 29)⟩])
     (.ret))))),
 [.tmp 4, .tmp 5]⟩

/-- style.isColour -/
def a_style_isColour : AFn := ⟨21,
 (.seq
  (.ops [
    ⟨some 2, none, .mv (.const (.bool false))⟩])
  (.seq
   (.ops [
     ⟨some 3, none, .mv (.tmp 0)⟩,
     ⟨some 4, none, .bin .eql t_uint32 (.tmp 3) (.const (.int .u32 0))⟩,
     ⟨some 5, none, .mv (.tmp 4)⟩,
     ⟨some 6, some (5, false), .mv (.tmp 0)⟩,
     ⟨some 7, some (5, false), .bin .geq t_uint32 (.tmp 6) (.const (.int .u32 16777216))⟩,
     ⟨some 8, some (5, false), .mv (.tmp 7)⟩,
     ⟨some 9, some (8, true), .mv (.tmp 0)⟩,
     ⟨some 10, some (8, true), .bin .leq t_uint32 (.tmp 9) (.const (.int .u32 16777471))⟩,
     ⟨some 11, some (5, false), .pick (.tmp 8) (.tmp 10) (.const (.bool false))⟩,
     ⟨some 12, none, .pick (.tmp 5) (.const (.bool true)) (.tmp 11)⟩,
     ⟨some 13, none, .mv (.tmp 12)⟩,
     ⟨some 14, some (13, false), .mv (.tmp 0)⟩,
     ⟨some 15, some (13, false), .bin .geq t_uint32 (.tmp 14) (.const (.int .u32 33554432))⟩,
     ⟨some 16, some (13, false), .mv (.tmp 15)⟩,
     ⟨some 17, some (16, true), .mv (.tmp 0)⟩,
     ⟨some 18, some (16, true), .bin .lss t_uint32 (.tmp 17) (.const (.int .u32 50331648))⟩,
     ⟨some 19, some (13, false), .pick (.tmp 16) (.tmp 18) (.const (.bool false))⟩,
     ⟨some 20, none, .pick (.tmp 13) (.const (.bool true)) (.tmp 19)⟩,
     ⟨some 2, none, .mv (.tmp 20)⟩])
   (.ret))),
 [.tmp 2]⟩

/-- longlineref16.Of -/
def a_ref16_Of : AFn := ⟨25,
 (.seq
  (.ops [
    ⟨some 6, none, .new t_longlineref16_Style [(.bool false), (.bool false), (.bool false), (.bool false), (.bool false), (.bool false), (.bool false), (.bool false), (.int .u32 0), (.int .u32 0)]⟩])
  (.seq
   (.ops [
     ⟨some 9, none, .mv (.tmp 1)⟩,
     ⟨some 10, none, .mv (.tmp 2)⟩,
     ⟨some 11, none, .gen (.build t_longlineref16_Style #[(1, (.tmp 9)), (2, (.tmp 10))]) t_longlineref16_Style⟩,
     ⟨some 7, none, .new t_longlineref16_Style [(.bool false), (.bool false), (.bool false), (.bool false), (.bool false), (.bool false), (.bool false), (.bool false), (.int .u32 0), (.int .u32 0)]⟩,
     ⟨none, none, .store 10 (.tmp 7) (.tmp 11)⟩])
   (.seq
    (.seq
     (.ops [
       ⟨some 8, none, .mv (.const (.int .i64 0))⟩])
     (.block 0
      (.loop
       (.seq
        (.seq
         (.ops [
           ⟨some 12, none, .mv (.tmp 8)⟩,
           ⟨some 13, none, .bin .lss t_int (.tmp 12) (.const (.int .i64 8))⟩])
         (.cond (.tmp 13)
          (.skip)
          (.exit 0)))
        (.seq
         (.block 1
          (.seq
           (.ops [
             ⟨some 16, none, .mv (.tmp 8)⟩,
             ⟨some 17, none, .mv (.tmp 0)⟩,
             ⟨some 18, none, .bin .rem t_uint8 (.tmp 17) (.const (.int .u8 2))⟩,
             ⟨some 19, none, .bin .eql t_uint8 (.tmp 18) (.const (.int .u8 1))⟩,
             ⟨some 20, none, .fld 0 (.tmp 7)⟩,
             ⟨some 21, none, .idxA 8 1 (.tmp 20) (.tmp 16)⟩,
             ⟨none, none, .store 1 (.tmp 21) (.tmp 19)⟩])
           (.ops [
             ⟨some 22, none, .mv (.tmp 0)⟩,
             ⟨some 23, none, .bin .quo t_uint8 (.tmp 22) (.const (.int .u8 2))⟩,
             ⟨some 0, none, .mv (.tmp 23)⟩])))
         (.ops [
           ⟨some 14, none, .mv (.tmp 8)⟩,
           ⟨some 15, none, .bin .add t_int (.tmp 14) (.const (.int .i64 1))⟩,
           ⟨some 8, none, .mv (.tmp 15)⟩]))))))
    (.seq
     (.ops [
       ⟨some 24, none, .loadN 10 (.tmp 7)⟩,
       ⟨none, none, .store 10 (.tmp 6) (.tmp 24)⟩])
     (.ret))))),
 [.cell 6 t_longlineref16_Style]⟩

/-- patch.base -/
def a_patch_base : AFn := ⟨26,
 (.seq
  (.ops [
    ⟨some 3, none, .box t_view_View (.tmp 0)⟩,
    ⟨some 6, none, .mv (.const (.slice none 0 0))⟩])
  (.seq
   (.seq
    (.ops [
      ⟨some 7, none, .fld 0 (.tmp 3)⟩,
      ⟨some 8, none, .load1 (.tmp 7)⟩,
      ⟨some 9, none, .mv (.tmp 1)⟩,
      ⟨some 10, none, .bin .eql t_int (.tmp 8) (.tmp 9)⟩,
      ⟨some 11, none, .mv (.tmp 10)⟩,
      ⟨some 12, some (11, true), .fld 1 (.tmp 3)⟩,
      ⟨some 13, some (11, true), .load1 (.tmp 12)⟩,
      ⟨some 14, some (11, true), .mv (.tmp 2)⟩,
      ⟨some 15, some (11, true), .bin .eql t_int (.tmp 13) (.tmp 14)⟩,
      ⟨some 16, none, .pick (.tmp 11) (.tmp 15) (.const (.bool false))⟩])
    (.cond (.tmp 16)
     (.seq
      (.ops [
        ⟨some 17, none, .fld 2 (.tmp 3)⟩,
        ⟨some 18, none, .load1 (.tmp 17)⟩,
        ⟨some 19, none, .call n_slices_Clone_grid_Cell_grid_Cell [(.tmp 18)]⟩,
        ⟨some 6, none, .mv (.tmp 19)⟩])
      (.ret))
     (.skip)))
   (.seq
    (.ops [
      ⟨some 20, none, .call n_grid_Blank []⟩,
      ⟨some 21, none, .gen (.buildSlice t_S_grid_Cell 1 #[(0, (.tmp 20))]) t_S_grid_Cell⟩,
      ⟨some 22, none, .mv (.tmp 1)⟩,
      ⟨some 23, none, .mv (.tmp 2)⟩,
      ⟨some 24, none, .bin .mul t_int (.tmp 22) (.tmp 23)⟩,
      ⟨some 25, none, .call n_slices_Repeat_grid_Cell_grid_Cell [(.tmp 21), (.tmp 24)]⟩,
      ⟨some 6, none, .mv (.tmp 25)⟩])
    (.ret)))),
 [.tmp 6]⟩

/-- patch.numbers -/
def a_patch_numbers : AFn := ⟨25,
 (.seq
  (.ops [
    ⟨some 2, none, .mv (.const (.slice none 0 0))⟩])
  (.seq
   (.ops [
     ⟨some 3, none, .mv (.const (.slice none 0 0))⟩])
   (.seq
    (.seq
     (.ops [
       ⟨some 8, none, .mv (.tmp 0)⟩,
       ⟨some 9, none, .len (.tmp 8)⟩,
       ⟨some 10, none, .mv (.const (.int .i64 0))⟩])
     (.block 0
      (.loop
       (.seq
        (.ops [
          ⟨some 11, none, .bin .lss t_int (.tmp 10) (.tmp 9)⟩])
        (.seq
         (.cond (.tmp 11)
          (.skip)
          (.exit 0))
         (.seq
          (.block 1
           (.seq
            (.ops [
              ⟨some 12, none, .idxS 1 (.tmp 8) (.tmp 10)⟩,
              ⟨some 13, none, .load1 (.tmp 12)⟩,
              ⟨some 5, none, .mv (.tmp 13)⟩])
            (.seq
             (.ops [
               ⟨some 15, none, .mv (.tmp 5)⟩,
               ⟨some 16, none, .gen (.convert t_int t_uint64 (.tmp 15)) t_uint64⟩,
               ⟨some 17, none, .call n_vint_Put [(.tmp 16)]⟩,
               ⟨some 14, none, .mv (.tmp 17)⟩,
               ⟨some 18, none, .ext (.tmp 14) 0⟩,
               ⟨some 19, none, .ext (.tmp 14) 1⟩,
               ⟨some 6, none, .mv (.tmp 18)⟩,
               ⟨some 7, none, .mv (.tmp 19)⟩])
             (.ops [
               ⟨some 20, none, .mv (.tmp 3)⟩,
               ⟨some 21, none, .mv (.tmp 6)⟩,
               ⟨some 22, none, .gen (.call ⟨.builtin .append, #[(.tmp 20), (.tmp 21)], #[t_S_uint8, t_S_uint8]⟩) t_S_uint8⟩,
               ⟨some 3, none, .mv (.tmp 22)⟩]))))
          (.ops [
            ⟨some 23, none, .bin .add t_int (.tmp 10) (.const (.int .i64 1))⟩,
            ⟨some 10, none, .mv (.tmp 23)⟩])))))))
    (.seq
     (.ops [
       ⟨some 24, none, .mv (.tmp 3)⟩,
       ⟨some 2, none, .mv (.tmp 24)⟩])
     (.ret))))),
 [.tmp 2]⟩

/-- slices.IndexFunc[[]vint.Field,vint.Field] -/
def a_slices_IndexFunc_vint_Field_vint_Field : AFn := ⟨19,
 (.seq
  (.ops [
    ⟨some 4, none, .mv (.const (.int .i64 0))⟩])
  (.seq
   (.seq
    (.ops [
      ⟨some 6, none, .mv (.tmp 0)⟩,
      ⟨some 7, none, .len (.tmp 6)⟩,
      ⟨some 8, none, .mv (.const (.int .i64 0))⟩])
    (.block 0
     (.loop
      (.seq
       (.ops [
         ⟨some 9, none, .bin .lss t_int (.tmp 8) (.tmp 7)⟩])
       (.seq
        (.cond (.tmp 9)
         (.skip)
         (.exit 0))
        (.seq
         (.block 1
          (.seq
           (.ops [
             ⟨some 10, none, .mv (.tmp 8)⟩,
             ⟨some 5, none, .mv (.tmp 10)⟩])
           (.seq
            (.ops [
              ⟨some 11, none, .mv (.tmp 1)⟩,
              ⟨some 12, none, .mv (.tmp 0)⟩,
              ⟨some 13, none, .mv (.tmp 5)⟩,
              ⟨some 14, none, .idxS 2 (.tmp 12) (.tmp 13)⟩,
              ⟨some 15, none, .loadN 2 (.tmp 14)⟩,
              ⟨some 16, none, .callv (.tmp 11) [(.tmp 15)]⟩])
            (.cond (.tmp 16)
             (.seq
              (.ops [
                ⟨some 17, none, .mv (.tmp 5)⟩,
                ⟨some 4, none, .mv (.tmp 17)⟩])
              (.ret))
             (.skip)))))
         (.ops [
           ⟨some 18, none, .bin .add t_int (.tmp 8) (.const (.int .i64 1))⟩,
           ⟨some 8, none, .mv (.tmp 18)⟩])))))))
   (.seq
    (.ops [
      ⟨some 4, none, .mv (.const (.int .i64 (-1)))⟩])
    (.ret)))),
 [.tmp 4]⟩

/-- vint.Find$1 -/
def a_vint_Find_1 : AFn := ⟨8,
 (.seq
  (.ops [
    ⟨some 2, none, .box t_vint_Field (.tmp 0)⟩,
    ⟨some 3, none, .mv (.const (.bool false))⟩])
  (.seq
   (.ops [
     ⟨some 4, none, .fld 0 (.tmp 2)⟩,
     ⟨some 5, none, .load1 (.tmp 4)⟩,
     ⟨some 6, none, .load1 (.tmp 1)⟩,
     ⟨some 7, none, .bin .eql t_uint8 (.tmp 5) (.tmp 6)⟩,
     ⟨some 3, none, .mv (.tmp 7)⟩])
   (.ret))),
 [.tmp 3]⟩

/-- patch.runs -/
def a_patch_runs : AFn := ⟨83,
 (.seq
  (.ops [
    ⟨some 2, none, .mv (.const (.slice none 0 0))⟩,
    ⟨some 3, none, .mv (.const (.bool false))⟩])
  (.seq
   (.ops [
     ⟨some 4, none, .mv (.const (.slice none 0 0))⟩])
   (.seq
    (.ops [
      ⟨some 5, none, .mv (.const (.int .i64 5))⟩])
    (.seq
     (.block 0
      (.loop
       (.seq
        (.seq
         (.ops [
           ⟨some 14, none, .mv (.tmp 5)⟩,
           ⟨some 15, none, .mv (.tmp 0)⟩,
           ⟨some 16, none, .len (.tmp 15)⟩,
           ⟨some 17, none, .bin .lss t_int (.tmp 14) (.tmp 16)⟩])
         (.cond (.tmp 17)
          (.skip)
          (.exit 0)))
        (.block 1
         (.seq
          (.ops [
            ⟨some 19, none, .mv (.tmp 0)⟩,
            ⟨some 20, none, .mv (.tmp 5)⟩,
            ⟨some 21, none, .call n_vint_Get [(.tmp 19), (.tmp 20)]⟩,
            ⟨some 18, none, .mv (.tmp 21)⟩,
            ⟨some 22, none, .ext (.tmp 18) 0⟩,
            ⟨some 23, none, .ext (.tmp 18) 1⟩,
            ⟨some 24, none, .ext (.tmp 18) 2⟩,
            ⟨some 6, none, .mv (.tmp 22)⟩,
            ⟨some 7, none, .mv (.tmp 23)⟩,
            ⟨some 8, none, .mv (.tmp 24)⟩])
          (.seq
           (.seq
            (.ops [
              ⟨some 25, none, .mv (.tmp 8)⟩,
              ⟨some 26, none, .bin .neq t_api_Errno (.tmp 25) (.const (.int .i64 0))⟩])
            (.cond (.tmp 26)
             (.seq
              (.ops [
                ⟨some 2, none, .mv (.const (.slice none 0 0))⟩,
                ⟨some 3, none, .mv (.const (.bool false))⟩])
              (.ret))
             (.skip)))
           (.seq
            (.ops [
              ⟨some 28, none, .mv (.tmp 0)⟩,
              ⟨some 29, none, .mv (.tmp 7)⟩,
              ⟨some 30, none, .call n_vint_Get [(.tmp 28), (.tmp 29)]⟩,
              ⟨some 27, none, .mv (.tmp 30)⟩,
              ⟨some 31, none, .ext (.tmp 27) 0⟩,
              ⟨some 32, none, .ext (.tmp 27) 1⟩,
              ⟨some 33, none, .ext (.tmp 27) 2⟩,
              ⟨some 9, none, .mv (.tmp 31)⟩,
              ⟨some 7, none, .mv (.tmp 32)⟩,
              ⟨some 8, none, .mv (.tmp 33)⟩])
            (.seq
             (.seq
              (.ops [
                ⟨some 34, none, .mv (.tmp 8)⟩,
                ⟨some 35, none, .bin .neq t_api_Errno (.tmp 34) (.const (.int .i64 0))⟩,
                ⟨some 36, none, .mv (.tmp 35)⟩,
                ⟨some 37, some (36, false), .mv (.tmp 9)⟩,
                ⟨some 38, some (36, false), .bin .eql t_uint64 (.tmp 37) (.const (.int .u64 0))⟩,
                ⟨some 39, none, .pick (.tmp 36) (.const (.bool true)) (.tmp 38)⟩])
              (.cond (.tmp 39)
               (.seq
                (.ops [
                  ⟨some 2, none, .mv (.const (.slice none 0 0))⟩,
                  ⟨some 3, none, .mv (.const (.bool false))⟩])
                (.ret))
               (.skip)))
             (.seq
              (.ops [
                ⟨some 40, none, .mv (.tmp 6)⟩,
                ⟨some 41, none, .gen (.call ⟨.builtin .min, #[(.tmp 40), (.const (.int .u64 24000))], #[t_uint64, t_uint64]⟩) t_uint64⟩,
                ⟨some 42, none, .gen (.convert t_uint64 t_int (.tmp 41)) t_int⟩,
                ⟨some 43, none, .gen (.build t_patch_run #[(0, (.tmp 42))]) t_patch_run⟩,
                ⟨some 10, none, .new t_patch_run [(.int .i64 0), (.slice none 0 0)]⟩,
                ⟨none, none, .store 2 (.tmp 10) (.tmp 43)⟩])
              (.seq
               (.seq
                (.ops [
                  ⟨some 44, none, .mv (.tmp 9)⟩,
                  ⟨some 45, none, .mv (.tmp 0)⟩,
                  ⟨some 46, none, .len (.tmp 45)⟩,
                  ⟨some 47, none, .gen (.convert t_int t_uint64 (.tmp 46)) t_uint64⟩,
                  ⟨some 48, none, .gen (.call ⟨.builtin .min, #[(.tmp 44), (.tmp 47)], #[t_uint64, t_uint64]⟩) t_uint64⟩,
                  ⟨some 49, none, .mv (.const (.int .u64 0))⟩])
                (.block 2
                 (.loop
                  (.seq
                   (.ops [
                     ⟨some 50, none, .bin .lss t_uint64 (.tmp 49) (.tmp 48)⟩])
                   (.seq
                    (.cond (.tmp 50)
                     (.skip)
                     (.exit 2))
                    (.seq
                     (.block 3
                      (.seq
                       (.ops [
                         ⟨some 52, none, .mv (.tmp 0)⟩,
                         ⟨some 53, none, .mv (.tmp 7)⟩,
                         ⟨some 54, none, .call n_view_GetCell [(.tmp 52), (.tmp 53)]⟩,
                         ⟨some 51, none, .mv (.tmp 54)⟩,
                         ⟨some 55, none, .ext (.tmp 51) 0⟩,
                         ⟨some 56, none, .ext (.tmp 51) 1⟩,
                         ⟨some 57, none, .ext (.tmp 51) 2⟩,
                         ⟨some 11, none, .new t_grid_Cell [(.int .i32 0), (.int .u8 0), (.int .u32 0), (.int .u32 0)]⟩,
                         ⟨none, none, .store 4 (.tmp 11) (.tmp 55)⟩,
                         ⟨some 12, none, .mv (.tmp 56)⟩,
                         ⟨some 13, none, .mv (.tmp 57)⟩])
                       (.seq
                        (.seq
                         (.ops [
                           ⟨some 58, none, .mv (.tmp 13)⟩,
                           ⟨some 59, none, .bin .neq t_api_Errno (.tmp 58) (.const (.int .i64 0))⟩])
                         (.cond (.tmp 59)
                          (.seq
                           (.ops [
                             ⟨some 2, none, .mv (.const (.slice none 0 0))⟩,
                             ⟨some 3, none, .mv (.const (.bool false))⟩])
                           (.ret))
                          (.skip)))
                        (.seq
                         (.ops [
                           ⟨some 60, none, .fld 1 (.tmp 10)⟩,
                           ⟨some 61, none, .load1 (.tmp 60)⟩,
                           ⟨some 62, none, .loadN 4 (.tmp 11)⟩,
                           ⟨some 63, none, .gen (.buildSlice t_S_grid_Cell 1 #[(0, (.tmp 62))]) t_S_grid_Cell⟩,
                           ⟨some 64, none, .gen (.call ⟨.builtin .append, #[(.tmp 61), (.tmp 63)], #[t_S_grid_Cell, t_S_grid_Cell]⟩) t_S_grid_Cell⟩,
                           ⟨some 65, none, .fld 1 (.tmp 10)⟩,
                           ⟨none, none, .store 1 (.tmp 65) (.tmp 64)⟩])
                         (.ops [
                           ⟨some 66, none, .mv (.tmp 12)⟩,
                           ⟨some 7, none, .mv (.tmp 66)⟩])))))
                     (.ops [
                       ⟨some 67, none, .bin .add t_uint64 (.tmp 49) (.const (.int .u64 1))⟩,
                       ⟨some 49, none, .mv (.tmp 67)⟩])))))))
               (.seq
                (.seq
                 (.ops [
                   ⟨some 68, none, .fld 1 (.tmp 10)⟩,
                   ⟨some 69, none, .load1 (.tmp 68)⟩,
                   ⟨some 70, none, .len (.tmp 69)⟩,
                   ⟨some 71, none, .gen (.convert t_int t_uint64 (.tmp 70)) t_uint64⟩,
                   ⟨some 72, none, .mv (.tmp 9)⟩,
                   ⟨some 73, none, .bin .lss t_uint64 (.tmp 71) (.tmp 72)⟩])
                 (.cond (.tmp 73)
                  (.seq
                   (.ops [
                     ⟨some 2, none, .mv (.const (.slice none 0 0))⟩,
                     ⟨some 3, none, .mv (.const (.bool false))⟩])
                   (.ret))
                  (.skip)))
                (.seq
                 (.ops [
                   ⟨some 74, none, .mv (.tmp 4)⟩,
                   ⟨some 75, none, .loadN 2 (.tmp 10)⟩,
                   ⟨some 76, none, .gen (.buildSlice t_S_patch_run 1 #[(0, (.tmp 75))]) t_S_patch_run⟩,
                   ⟨some 77, none, .gen (.call ⟨.builtin .append, #[(.tmp 74), (.tmp 76)], #[t_S_patch_run, t_S_patch_run]⟩) t_S_patch_run⟩,
                   ⟨some 4, none, .mv (.tmp 77)⟩])
                 (.ops [
                   ⟨some 78, none, .mv (.tmp 7)⟩,
                   ⟨some 5, none, .mv (.tmp 78)⟩])))))))))))))
     (.seq
      (.ops [
        ⟨some 79, none, .mv (.tmp 4)⟩,
        ⟨some 80, none, .mv (.tmp 0)⟩,
        ⟨some 81, none, .len (.tmp 80)⟩,
        ⟨some 82, none, .bin .geq t_int (.tmp 81) (.const (.int .i64 5))⟩,
        ⟨some 2, none, .mv (.tmp 79)⟩,
        ⟨some 3, none, .mv (.tmp 82)⟩])
      (.ret)))))),
 [.tmp 2, .tmp 3]⟩

/-- longlineref16.isColour -/
def a_ref16_isColour : AFn := ⟨20,
 (.seq
  (.ops [
    ⟨some 2, none, .mv (.const (.bool false))⟩])
  (.seq
   (.ops [
     ⟨some 3, none, .mv (.tmp 0)⟩,
     ⟨some 4, none, .bin .eql t_uint32 (.tmp 3) (.const (.int .u32 0))⟩,
     ⟨some 5, none, .mv (.tmp 4)⟩,
     ⟨some 6, some (5, false), .mv (.tmp 0)⟩,
     ⟨some 7, some (5, false), .bin .quo t_uint32 (.tmp 6) (.const (.int .u32 16777216))⟩,
     ⟨some 8, some (5, false), .bin .eql t_uint32 (.tmp 7) (.const (.int .u32 1))⟩,
     ⟨some 9, some (5, false), .mv (.tmp 8)⟩,
     ⟨some 10, some (9, true), .mv (.tmp 0)⟩,
     ⟨some 11, some (9, true), .bin .rem t_uint32 (.tmp 10) (.const (.int .u32 16777216))⟩,
     ⟨some 12, some (9, true), .bin .lss t_uint32 (.tmp 11) (.const (.int .u32 256))⟩,
     ⟨some 13, some (5, false), .pick (.tmp 9) (.tmp 12) (.const (.bool false))⟩,
     ⟨some 14, none, .pick (.tmp 5) (.const (.bool true)) (.tmp 13)⟩,
     ⟨some 15, none, .mv (.tmp 14)⟩,
     ⟨some 16, some (15, false), .mv (.tmp 0)⟩,
     ⟨some 17, some (15, false), .bin .quo t_uint32 (.tmp 16) (.const (.int .u32 16777216))⟩,
     ⟨some 18, some (15, false), .bin .eql t_uint32 (.tmp 17) (.const (.int .u32 2))⟩,
     ⟨some 19, none, .pick (.tmp 15) (.const (.bool true)) (.tmp 18)⟩,
     ⟨some 2, none, .mv (.tmp 19)⟩])
   (.ret))),
 [.tmp 2]⟩

/-- (*ansi.Parser).tell -/
def a_ansi_Parser_tell : AFn := ⟨13,
 (.seq
  (.ops [
    ⟨some 2, none, .mv (.tmp 0)⟩,
    ⟨some 3, none, .mv (.tmp 0)⟩,
    ⟨some 4, none, .nil (.tmp 3)⟩,
    ⟨some 5, none, .fld 12 (.tmp 4)⟩,
    ⟨some 6, none, .load1 (.tmp 5)⟩,
    ⟨some 7, none, .gen (.convert t_S_int32 t_string (.tmp 6)) t_string⟩,
    ⟨some 8, none, .nil (.tmp 2)⟩,
    ⟨some 9, none, .fld 2 (.tmp 8)⟩,
    ⟨some 10, none, .fld 6 (.tmp 9)⟩,
    ⟨none, none, .store 1 (.tmp 10) (.tmp 7)⟩])
  (.ops [
    ⟨some 11, none, .mv (.tmp 0)⟩,
    ⟨some 12, none, .call n_ansi_Parser_end [(.tmp 11), (.const (.int .i64 5)), (.const (.int .u8 0))]⟩])),
 []⟩

/-- (*ansi.Parser).inter -/
def a_ansi_Parser_inter : AFn := ⟨18,
 (.seq
  (.seq
   (.ops [
     ⟨some 4, none, .mv (.tmp 0)⟩,
     ⟨some 5, none, .nil (.tmp 4)⟩,
     ⟨some 6, none, .fld 2 (.tmp 5)⟩,
     ⟨some 7, none, .fld 3 (.tmp 6)⟩,
     ⟨some 8, none, .load1 (.tmp 7)⟩,
     ⟨some 9, none, .bin .neq t_uint8 (.tmp 8) (.const (.int .u8 0))⟩])
   (.cond (.tmp 9)
    (.seq
     (.ops [
       ⟨some 10, none, .mv (.tmp 0)⟩,
       ⟨some 11, none, .nil (.tmp 10)⟩,
       ⟨some 12, none, .fld 10 (.tmp 11)⟩,
       ⟨none, none, .store 1 (.tmp 12) (.const (.bool true))⟩])
     (.ret))
    (.skip)))
  (.ops [
    ⟨some 13, none, .mv (.tmp 0)⟩,
    ⟨some 14, none, .mv (.tmp 1)⟩,
    ⟨some 15, none, .nil (.tmp 13)⟩,
    ⟨some 16, none, .fld 2 (.tmp 15)⟩,
    ⟨some 17, none, .fld 3 (.tmp 16)⟩,
    ⟨none, none, .store 1 (.tmp 17) (.tmp 14)⟩])),
 []⟩

/-- (*ansi.Parser).end -/
def a_ansi_Parser_end : AFn := ⟨36,
 (.seq
  (.ops [
    ⟨some 6, none, .mv (.tmp 0)⟩,
    ⟨some 7, none, .mv (.tmp 0)⟩,
    ⟨some 8, none, .mv (.tmp 1)⟩,
    ⟨some 9, none, .mv (.tmp 2)⟩,
    ⟨some 10, none, .nil (.tmp 6)⟩,
    ⟨some 11, none, .fld 2 (.tmp 10)⟩,
    ⟨some 12, none, .fld 0 (.tmp 11)⟩,
    ⟨none, none, .store 1 (.tmp 12) (.tmp 8)⟩,
    ⟨some 13, none, .nil (.tmp 7)⟩,
    ⟨some 14, none, .fld 2 (.tmp 13)⟩,
    ⟨some 15, none, .fld 4 (.tmp 14)⟩,
    ⟨none, none, .store 1 (.tmp 15) (.tmp 9)⟩])
  (.seq
   (.seq
    (.ops [
      ⟨some 16, none, .mv (.tmp 0)⟩,
      ⟨some 17, none, .nil (.tmp 16)⟩,
      ⟨some 18, none, .fld 10 (.tmp 17)⟩,
      ⟨some 19, none, .load1 (.tmp 18)⟩,
      ⟨some 20, none, .not (.tmp 19)⟩])
    (.cond (.tmp 20)
     (.plan [
       (⟨some 21, none, .mv (.tmp 0)⟩, []),
       (⟨some 22, none, .mv (.tmp 0)⟩, []),
       (⟨some 23, none, .nil (.tmp 22)⟩, []),
       (⟨some 24, none, .fld 13 (.tmp 23)⟩, []),
       (⟨some 25, none, .load1 (.tmp 24)⟩, []),
       (⟨some 26, none, .mv (.tmp 0)⟩, []),
       (⟨some 27, none, .nil (.tmp 26)⟩, []),
       (⟨some 28, none, .fld 2 (.tmp 27)⟩, []),
       (⟨some 29, none, .loadN 7 (.tmp 28)⟩, []),
       (⟨some 30, none, .gen (.buildSlice t_S_ansi_Event 1 #[(0, (.tmp 29))]) t_S_ansi_Event⟩, [⟨some 25, none, .load1 (.tmp 24)⟩]),
       (⟨some 31, none, .gen (.call ⟨.builtin .append, #[(.tmp 25), (.tmp 30)], #[t_S_ansi_Event, t_S_ansi_Event]⟩) t_S_ansi_Event⟩, []),
       (⟨some 32, none, .nil (.tmp 21)⟩, []),
       (⟨some 33, none, .fld 13 (.tmp 32)⟩, []),
       (⟨none, none, .store 1 (.tmp 33) (.tmp 31)⟩, [])])
     (.skip)))
   (.ops [
     ⟨some 34, none, .mv (.tmp 0)⟩,
     ⟨some 35, none, .call n_ansi_Parser_enter [(.tmp 34), (.const (.int .i64 0))]⟩]))),
 []⟩

/-- (*ansi.Parser).digit -/
def a_ansi_Parser_digit : AFn := ⟨45,
 (.seq
  (.seq
   (.ops [
     ⟨some 5, none, .mv (.tmp 0)⟩,
     ⟨some 6, none, .nil (.tmp 5)⟩,
     ⟨some 7, none, .fld 2 (.tmp 6)⟩,
     ⟨some 8, none, .fld 5 (.tmp 7)⟩,
     ⟨some 9, none, .load1 (.tmp 8)⟩,
     ⟨some 10, none, .len (.tmp 9)⟩,
     ⟨some 11, none, .bin .eql t_int (.tmp 10) (.const (.int .i64 0))⟩])
   (.cond (.tmp 11)
    (.ops [
      ⟨some 12, none, .mv (.tmp 0)⟩,
      ⟨some 13, none, .gen (.buildSlice t_S_int 1 #[(0, (.const (.int .i64 0)))]) t_S_int⟩,
      ⟨some 14, none, .nil (.tmp 12)⟩,
      ⟨some 15, none, .fld 2 (.tmp 14)⟩,
      ⟨some 16, none, .fld 5 (.tmp 15)⟩,
      ⟨none, none, .store 1 (.tmp 16) (.tmp 13)⟩])
    (.skip)))
  (.seq
   (.ops [
     ⟨some 17, none, .mv (.tmp 0)⟩,
     ⟨some 18, none, .nil (.tmp 17)⟩,
     ⟨some 19, none, .fld 2 (.tmp 18)⟩,
     ⟨some 20, none, .fld 5 (.tmp 19)⟩,
     ⟨some 21, none, .load1 (.tmp 20)⟩,
     ⟨some 22, none, .len (.tmp 21)⟩,
     ⟨some 23, none, .bin .sub t_int (.tmp 22) (.const (.int .i64 1))⟩,
     ⟨some 4, none, .mv (.tmp 23)⟩])
   (.plan [
     (⟨some 24, none, .mv (.tmp 0)⟩, []),
     (⟨some 25, none, .nil (.tmp 24)⟩, []),
     (⟨some 26, none, .fld 2 (.tmp 25)⟩, []),
     (⟨some 27, none, .fld 5 (.tmp 26)⟩, []),
     (⟨some 28, none, .load1 (.tmp 27)⟩, []),
     (⟨some 29, none, .mv (.tmp 4)⟩, []),
     (⟨some 30, none, .mv (.tmp 0)⟩, []),
     (⟨some 31, none, .nil (.tmp 30)⟩, []),
     (⟨some 32, none, .fld 2 (.tmp 31)⟩, []),
     (⟨some 33, none, .fld 5 (.tmp 32)⟩, []),
     (⟨some 34, none, .load1 (.tmp 33)⟩, []),
     (⟨some 35, none, .mv (.tmp 4)⟩, []),
     (⟨some 36, none, .idxS 1 (.tmp 34) (.tmp 35)⟩, []),
     (⟨some 37, none, .load1 (.tmp 36)⟩, []),
     (⟨some 38, none, .bin .mul t_int (.tmp 37) (.const (.int .i64 10))⟩, []),
     (⟨some 39, none, .mv (.tmp 1)⟩, []),
     (⟨some 40, none, .bin .sub t_uint8 (.tmp 39) (.const (.int .u8 48))⟩, []),
     (⟨some 41, none, .gen (.convert t_uint8 t_int (.tmp 40)) t_int⟩, []),
     (⟨some 42, none, .bin .add t_int (.tmp 38) (.tmp 41)⟩, []),
     (⟨some 43, none, .gen (.call ⟨.builtin .min, #[(.tmp 42), (.const (.int .i64 9999))], #[t_int, t_int]⟩) t_int⟩, []),
     (⟨some 44, none, .idxS 1 (.tmp 28) (.tmp 29)⟩, []),
     (⟨none, none, .store 1 (.tmp 44) (.tmp 43)⟩, [])]))),
 []⟩

/-- (*ansi.Parser).next -/
def a_ansi_Parser_next : AFn := ⟨58,
 (.seq
  (.seq
   (.ops [
     ⟨some 2, none, .mv (.tmp 0)⟩,
     ⟨some 3, none, .nil (.tmp 2)⟩,
     ⟨some 4, none, .fld 2 (.tmp 3)⟩,
     ⟨some 5, none, .fld 5 (.tmp 4)⟩,
     ⟨some 6, none, .load1 (.tmp 5)⟩,
     ⟨some 7, none, .len (.tmp 6)⟩,
     ⟨some 8, none, .bin .eql t_int (.tmp 7) (.const (.int .i64 0))⟩])
   (.cond (.tmp 8)
    (.ops [
      ⟨some 9, none, .mv (.tmp 0)⟩,
      ⟨some 10, none, .gen (.buildSlice t_S_int 1 #[(0, (.const (.int .i64 0)))]) t_S_int⟩,
      ⟨some 11, none, .nil (.tmp 9)⟩,
      ⟨some 12, none, .fld 2 (.tmp 11)⟩,
      ⟨some 13, none, .fld 5 (.tmp 12)⟩,
      ⟨none, none, .store 1 (.tmp 13) (.tmp 10)⟩])
    (.skip)))
  (.seq
   (.ops [
     ⟨some 14, none, .mv (.tmp 0)⟩,
     ⟨some 15, none, .mv (.tmp 0)⟩,
     ⟨some 16, none, .nil (.tmp 15)⟩,
     ⟨some 17, none, .fld 2 (.tmp 16)⟩,
     ⟨some 18, none, .fld 5 (.tmp 17)⟩,
     ⟨some 19, none, .load1 (.tmp 18)⟩,
     ⟨some 20, none, .gen (.buildSlice t_S_int 1 #[(0, (.const (.int .i64 0)))]) t_S_int⟩,
     ⟨some 21, none, .gen (.call ⟨.builtin .append, #[(.tmp 19), (.tmp 20)], #[t_S_int, t_S_int]⟩) t_S_int⟩,
     ⟨some 22, none, .nil (.tmp 14)⟩,
     ⟨some 23, none, .fld 2 (.tmp 22)⟩,
     ⟨some 24, none, .fld 5 (.tmp 23)⟩,
     ⟨none, none, .store 1 (.tmp 24) (.tmp 21)⟩])
   (.seq
    (.ops [
      ⟨some 25, none, .mv (.tmp 0)⟩,
      ⟨some 26, none, .mv (.tmp 0)⟩,
      ⟨some 27, none, .nil (.tmp 26)⟩,
      ⟨some 28, none, .fld 10 (.tmp 27)⟩,
      ⟨some 29, none, .load1 (.tmp 28)⟩,
      ⟨some 30, none, .mv (.tmp 29)⟩,
      ⟨some 31, some (30, false), .mv (.tmp 0)⟩,
      ⟨some 32, some (30, false), .nil (.tmp 31)⟩,
      ⟨some 33, some (30, false), .fld 2 (.tmp 32)⟩,
      ⟨some 34, some (30, false), .fld 5 (.tmp 33)⟩,
      ⟨some 35, some (30, false), .load1 (.tmp 34)⟩,
      ⟨some 36, some (30, false), .len (.tmp 35)⟩,
      ⟨some 37, some (30, false), .bin .gtr t_int (.tmp 36) (.const (.int .i64 16))⟩,
      ⟨some 38, none, .pick (.tmp 30) (.const (.bool true)) (.tmp 37)⟩,
      ⟨some 39, none, .nil (.tmp 25)⟩,
      ⟨some 40, none, .fld 10 (.tmp 39)⟩,
      ⟨none, none, .store 1 (.tmp 40) (.tmp 38)⟩])
    (.plan [
      (⟨some 41, none, .mv (.tmp 0)⟩, []),
      (⟨some 42, none, .mv (.tmp 0)⟩, []),
      (⟨some 43, none, .nil (.tmp 42)⟩, []),
      (⟨some 44, none, .fld 2 (.tmp 43)⟩, []),
      (⟨some 45, none, .fld 5 (.tmp 44)⟩, []),
      (⟨some 46, none, .load1 (.tmp 45)⟩, []),
      (⟨some 47, none, .mv (.tmp 0)⟩, []),
      (⟨some 48, none, .nil (.tmp 47)⟩, []),
      (⟨some 49, none, .fld 2 (.tmp 48)⟩, []),
      (⟨some 50, none, .fld 5 (.tmp 49)⟩, []),
      (⟨some 51, none, .load1 (.tmp 50)⟩, []),
      (⟨some 52, none, .len (.tmp 51)⟩, []),
      (⟨some 53, none, .gen (.call ⟨.builtin .min, #[(.tmp 52), (.const (.int .i64 16))], #[t_int, t_int]⟩) t_int⟩, []),
      (⟨some 54, none, .gen (.slice t_S_int (.tmp 46) none (some (.tmp 53)) none) t_S_int⟩, []),
      (⟨some 55, none, .nil (.tmp 41)⟩, []),
      (⟨some 56, none, .fld 2 (.tmp 55)⟩, []),
      (⟨some 57, none, .fld 5 (.tmp 56)⟩, []),
      (⟨none, none, .store 1 (.tmp 57) (.tmp 54)⟩, [])])))),
 []⟩

/-- (*grid.Grid).rows -/
def a_grid_Grid_rows : AFn := ⟨34,
 (.seq
  (.ops [
    ⟨some 8, none, .mv (.const (.int .i64 0))⟩])
  (.seq
   (.block 0
    (.seq
     (.ops [
       ⟨some 10, none, .mv (.tmp 0)⟩,
       ⟨some 11, none, .call n_grid_Grid_made [(.tmp 10)]⟩,
       ⟨some 12, none, .not (.tmp 11)⟩,
       ⟨some 9, none, .mv (.tmp 12)⟩])
     (.cond (.tmp 9)
      (.seq
       (.ops [
         ⟨some 8, none, .mv (.const (.int .i64 6))⟩])
       (.ret))
      (.seq
       (.ops [
         ⟨some 14, none, .mv (.tmp 1)⟩,
         ⟨some 15, none, .bin .lss t_int (.tmp 14) (.const (.int .i64 0))⟩,
         ⟨some 16, none, .mv (.tmp 15)⟩,
         ⟨some 17, some (16, false), .mv (.tmp 1)⟩,
         ⟨some 18, some (16, false), .mv (.tmp 2)⟩,
         ⟨some 19, some (16, false), .bin .gtr t_int (.tmp 17) (.tmp 18)⟩,
         ⟨some 20, none, .pick (.tmp 16) (.const (.bool true)) (.tmp 19)⟩,
         ⟨some 21, none, .mv (.tmp 20)⟩,
         ⟨some 22, some (21, false), .mv (.tmp 2)⟩,
         ⟨some 23, some (21, false), .mv (.tmp 0)⟩,
         ⟨some 24, some (21, false), .nil (.tmp 23)⟩,
         ⟨some 25, some (21, false), .fld 1 (.tmp 24)⟩,
         ⟨some 26, some (21, false), .load1 (.tmp 25)⟩,
         ⟨some 27, some (21, false), .len (.tmp 26)⟩,
         ⟨some 28, some (21, false), .bin .geq t_int (.tmp 22) (.tmp 27)⟩,
         ⟨some 29, none, .pick (.tmp 21) (.const (.bool true)) (.tmp 28)⟩,
         ⟨some 30, none, .mv (.tmp 29)⟩,
         ⟨some 31, some (30, false), .mv (.tmp 3)⟩,
         ⟨some 32, some (30, false), .bin .lss t_int (.tmp 31) (.const (.int .i64 0))⟩,
         ⟨some 33, none, .pick (.tmp 30) (.const (.bool true)) (.tmp 32)⟩,
         ⟨some 13, none, .mv (.tmp 33)⟩])
       (.cond (.tmp 13)
        (.seq
         (.ops [
           ⟨some 8, none, .mv (.const (.int .i64 1))⟩])
         (.ret))
        (.skip))))))
   (.seq
    (.ops [
      ⟨some 8, none, .mv (.const (.int .i64 0))⟩])
    (.ret)))),
 [.tmp 8]⟩

/-- (*style.Style).plain -/
def a_style_Style_plain : AFn := ⟨118,
 (.block 0
  (.seq
   (.ops [
     ⟨some 5, none, .mv (.tmp 1)⟩,
     ⟨some 6, none, .bin .eql t_int (.tmp 5) (.const (.int .i64 0))⟩,
     ⟨some 4, none, .mv (.tmp 6)⟩])
   (.cond (.tmp 4)
    (.ops [
      ⟨some 7, none, .mv (.tmp 0)⟩,
      ⟨some 8, none, .gen (.build t_style_Style #[]) t_style_Style⟩,
      ⟨some 9, none, .nil (.tmp 7)⟩,
      ⟨none, none, .store 3 (.tmp 9) (.tmp 8)⟩])
    (.seq
     (.ops [
       ⟨some 11, none, .mv (.tmp 1)⟩,
       ⟨some 12, none, .call n_style_flag [(.tmp 11)]⟩,
       ⟨some 13, none, .bin .neq t_uint8 (.tmp 12) (.const (.int .u8 0))⟩,
       ⟨some 10, none, .mv (.tmp 13)⟩])
     (.cond (.tmp 10)
      (.plan [
        (⟨some 14, none, .mv (.tmp 0)⟩, []),
        (⟨some 15, none, .nil (.tmp 14)⟩, []),
        (⟨some 16, none, .fld 0 (.tmp 15)⟩, []),
        (⟨some 17, none, .load1 (.tmp 16)⟩, []),
        (⟨some 18, none, .mv (.tmp 1)⟩, []),
        (⟨some 19, none, .call n_style_flag [(.tmp 18)]⟩, [⟨some 17, none, .load1 (.tmp 16)⟩]),
        (⟨some 20, none, .gen (.binOp .or t_uint8 (.tmp 17) (.tmp 19) t_uint8) t_uint8⟩, []),
        (⟨some 21, none, .nil (.tmp 14)⟩, []),
        (⟨some 22, none, .fld 0 (.tmp 21)⟩, []),
        (⟨none, none, .store 1 (.tmp 22) (.tmp 20)⟩, [])])
      (.seq
       (.ops [
         ⟨some 24, none, .mv (.tmp 1)⟩,
         ⟨some 25, none, .bin .eql t_int (.tmp 24) (.const (.int .i64 22))⟩,
         ⟨some 23, none, .mv (.tmp 25)⟩])
       (.cond (.tmp 23)
        (.ops [
          ⟨some 26, none, .mv (.tmp 0)⟩,
          ⟨some 27, none, .nil (.tmp 26)⟩,
          ⟨some 28, none, .fld 0 (.tmp 27)⟩,
          ⟨some 29, none, .load1 (.tmp 28)⟩,
          ⟨some 30, none, .gen (.binOp .andNot t_uint8 (.tmp 29) (.const (.int .u8 3)) t_uint8) t_uint8⟩,
          ⟨some 31, none, .nil (.tmp 26)⟩,
          ⟨some 32, none, .fld 0 (.tmp 31)⟩,
          ⟨none, none, .store 1 (.tmp 32) (.tmp 30)⟩])
        (.seq
         (.ops [
           ⟨some 34, none, .mv (.tmp 1)⟩,
           ⟨some 35, none, .bin .gtr t_int (.tmp 34) (.const (.int .i64 22))⟩,
           ⟨some 36, none, .mv (.tmp 35)⟩,
           ⟨some 37, some (36, true), .mv (.tmp 1)⟩,
           ⟨some 38, some (36, true), .bin .lss t_int (.tmp 37) (.const (.int .i64 30))⟩,
           ⟨some 39, none, .pick (.tmp 36) (.tmp 38) (.const (.bool false))⟩,
           ⟨some 33, none, .mv (.tmp 39)⟩])
         (.cond (.tmp 33)
          (.plan [
            (⟨some 40, none, .mv (.tmp 0)⟩, []),
            (⟨some 41, none, .nil (.tmp 40)⟩, []),
            (⟨some 42, none, .fld 0 (.tmp 41)⟩, []),
            (⟨some 43, none, .load1 (.tmp 42)⟩, []),
            (⟨some 44, none, .mv (.tmp 1)⟩, []),
            (⟨some 45, none, .bin .sub t_int (.tmp 44) (.const (.int .i64 20))⟩, []),
            (⟨some 46, none, .call n_style_flag [(.tmp 45)]⟩, [⟨some 43, none, .load1 (.tmp 42)⟩]),
            (⟨some 47, none, .gen (.binOp .andNot t_uint8 (.tmp 43) (.tmp 46) t_uint8) t_uint8⟩, []),
            (⟨some 48, none, .nil (.tmp 40)⟩, []),
            (⟨some 49, none, .fld 0 (.tmp 48)⟩, []),
            (⟨none, none, .store 1 (.tmp 49) (.tmp 47)⟩, [])])
          (.seq
           (.ops [
             ⟨some 51, none, .mv (.tmp 1)⟩,
             ⟨some 52, none, .bin .eql t_int (.tmp 51) (.const (.int .i64 39))⟩,
             ⟨some 50, none, .mv (.tmp 52)⟩])
           (.cond (.tmp 50)
            (.ops [
              ⟨some 53, none, .mv (.tmp 0)⟩,
              ⟨some 54, none, .nil (.tmp 53)⟩,
              ⟨some 55, none, .fld 1 (.tmp 54)⟩,
              ⟨none, none, .store 1 (.tmp 55) (.const (.int .u32 0))⟩])
            (.seq
             (.ops [
               ⟨some 57, none, .mv (.tmp 1)⟩,
               ⟨some 58, none, .bin .eql t_int (.tmp 57) (.const (.int .i64 49))⟩,
               ⟨some 56, none, .mv (.tmp 58)⟩])
             (.cond (.tmp 56)
              (.ops [
                ⟨some 59, none, .mv (.tmp 0)⟩,
                ⟨some 60, none, .nil (.tmp 59)⟩,
                ⟨some 61, none, .fld 2 (.tmp 60)⟩,
                ⟨none, none, .store 1 (.tmp 61) (.const (.int .u32 0))⟩])
              (.seq
               (.ops [
                 ⟨some 63, none, .mv (.tmp 1)⟩,
                 ⟨some 64, none, .bin .geq t_int (.tmp 63) (.const (.int .i64 30))⟩,
                 ⟨some 65, none, .mv (.tmp 64)⟩,
                 ⟨some 66, some (65, true), .mv (.tmp 1)⟩,
                 ⟨some 67, some (65, true), .bin .leq t_int (.tmp 66) (.const (.int .i64 37))⟩,
                 ⟨some 68, none, .pick (.tmp 65) (.tmp 67) (.const (.bool false))⟩,
                 ⟨some 62, none, .mv (.tmp 68)⟩])
               (.cond (.tmp 62)
                (.ops [
                  ⟨some 69, none, .mv (.tmp 0)⟩,
                  ⟨some 70, none, .mv (.tmp 1)⟩,
                  ⟨some 71, none, .bin .sub t_int (.tmp 70) (.const (.int .i64 30))⟩,
                  ⟨some 72, none, .gen (.convert t_int t_uint32 (.tmp 71)) t_uint32⟩,
                  ⟨some 73, none, .bin .add t_uint32 (.const (.int .u32 16777216)) (.tmp 72)⟩,
                  ⟨some 74, none, .nil (.tmp 69)⟩,
                  ⟨some 75, none, .fld 1 (.tmp 74)⟩,
                  ⟨none, none, .store 1 (.tmp 75) (.tmp 73)⟩])
                (.seq
                 (.ops [
                   ⟨some 77, none, .mv (.tmp 1)⟩,
                   ⟨some 78, none, .bin .geq t_int (.tmp 77) (.const (.int .i64 40))⟩,
                   ⟨some 79, none, .mv (.tmp 78)⟩,
                   ⟨some 80, some (79, true), .mv (.tmp 1)⟩,
                   ⟨some 81, some (79, true), .bin .leq t_int (.tmp 80) (.const (.int .i64 47))⟩,
                   ⟨some 82, none, .pick (.tmp 79) (.tmp 81) (.const (.bool false))⟩,
                   ⟨some 76, none, .mv (.tmp 82)⟩])
                 (.cond (.tmp 76)
                  (.ops [
                    ⟨some 83, none, .mv (.tmp 0)⟩,
                    ⟨some 84, none, .mv (.tmp 1)⟩,
                    ⟨some 85, none, .bin .sub t_int (.tmp 84) (.const (.int .i64 40))⟩,
                    ⟨some 86, none, .gen (.convert t_int t_uint32 (.tmp 85)) t_uint32⟩,
                    ⟨some 87, none, .bin .add t_uint32 (.const (.int .u32 16777216)) (.tmp 86)⟩,
                    ⟨some 88, none, .nil (.tmp 83)⟩,
                    ⟨some 89, none, .fld 2 (.tmp 88)⟩,
                    ⟨none, none, .store 1 (.tmp 89) (.tmp 87)⟩])
                  (.seq
                   (.ops [
                     ⟨some 91, none, .mv (.tmp 1)⟩,
                     ⟨some 92, none, .bin .geq t_int (.tmp 91) (.const (.int .i64 90))⟩,
                     ⟨some 93, none, .mv (.tmp 92)⟩,
                     ⟨some 94, some (93, true), .mv (.tmp 1)⟩,
                     ⟨some 95, some (93, true), .bin .leq t_int (.tmp 94) (.const (.int .i64 97))⟩,
                     ⟨some 96, none, .pick (.tmp 93) (.tmp 95) (.const (.bool false))⟩,
                     ⟨some 90, none, .mv (.tmp 96)⟩])
                   (.cond (.tmp 90)
                    (.ops [
                      ⟨some 97, none, .mv (.tmp 0)⟩,
                      ⟨some 98, none, .mv (.tmp 1)⟩,
                      ⟨some 99, none, .bin .sub t_int (.tmp 98) (.const (.int .i64 82))⟩,
                      ⟨some 100, none, .gen (.convert t_int t_uint32 (.tmp 99)) t_uint32⟩,
                      ⟨some 101, none, .bin .add t_uint32 (.const (.int .u32 16777216)) (.tmp 100)⟩,
                      ⟨some 102, none, .nil (.tmp 97)⟩,
                      ⟨some 103, none, .fld 1 (.tmp 102)⟩,
                      ⟨none, none, .store 1 (.tmp 103) (.tmp 101)⟩])
                    (.seq
                     (.ops [
                       ⟨some 105, none, .mv (.tmp 1)⟩,
                       ⟨some 106, none, .bin .geq t_int (.tmp 105) (.const (.int .i64 100))⟩,
                       ⟨some 107, none, .mv (.tmp 106)⟩,
                       ⟨some 108, some (107, true), .mv (.tmp 1)⟩,
                       ⟨some 109, some (107, true), .bin .leq t_int (.tmp 108) (.const (.int .i64 107))⟩,
                       ⟨some 110, none, .pick (.tmp 107) (.tmp 109) (.const (.bool false))⟩,
                       ⟨some 104, none, .mv (.tmp 110)⟩])
                     (.cond (.tmp 104)
                      (.ops [
                        ⟨some 111, none, .mv (.tmp 0)⟩,
                        ⟨some 112, none, .mv (.tmp 1)⟩,
                        ⟨some 113, none, .bin .sub t_int (.tmp 112) (.const (.int .i64 92))⟩,
                        ⟨some 114, none, .gen (.convert t_int t_uint32 (.tmp 113)) t_uint32⟩,
                        ⟨some 115, none, .bin .add t_uint32 (.const (.int .u32 16777216)) (.tmp 114)⟩,
                        ⟨some 116, none, .nil (.tmp 111)⟩,
                        ⟨some 117, none, .fld 2 (.tmp 116)⟩,
                        ⟨none, none, .store 1 (.tmp 117) (.tmp 115)⟩])
                      (.skip)))))))))))))))))))))),
 []⟩

/-- style.colour -/
def a_style_colour : AFn := ⟨71,
 (.seq
  (.ops [
    ⟨some 2, none, .mv (.const (.int .u32 0))⟩,
    ⟨some 3, none, .mv (.const (.int .i64 0))⟩,
    ⟨some 4, none, .mv (.const (.bool false))⟩])
  (.seq
   (.seq
    (.ops [
      ⟨some 9, none, .mv (.tmp 0)⟩,
      ⟨some 10, none, .len (.tmp 9)⟩,
      ⟨some 11, none, .bin .geq t_int (.tmp 10) (.const (.int .i64 2))⟩,
      ⟨some 12, none, .mv (.tmp 11)⟩,
      ⟨some 13, some (12, true), .mv (.tmp 0)⟩,
      ⟨some 14, some (12, true), .idxS 1 (.tmp 13) (.const (.int .i64 0))⟩,
      ⟨some 15, some (12, true), .load1 (.tmp 14)⟩,
      ⟨some 16, some (12, true), .bin .eql t_int (.tmp 15) (.const (.int .i64 5))⟩,
      ⟨some 17, none, .pick (.tmp 12) (.tmp 16) (.const (.bool false))⟩])
    (.cond (.tmp 17)
     (.seq
      (.plan [
        (⟨some 18, none, .mv (.tmp 0)⟩, []),
        (⟨some 19, none, .idxS 1 (.tmp 18) (.const (.int .i64 1))⟩, []),
        (⟨some 20, none, .load1 (.tmp 19)⟩, []),
        (⟨some 21, none, .gen (.binOp .and t_int (.tmp 20) (.const (.int .i64 255)) t_int) t_int⟩, []),
        (⟨some 22, none, .gen (.convert t_int t_uint32 (.tmp 21)) t_uint32⟩, []),
        (⟨some 23, none, .bin .add t_uint32 (.const (.int .u32 16777216)) (.tmp 22)⟩, []),
        (⟨some 24, none, .mv (.tmp 0)⟩, []),
        (⟨some 25, none, .idxS 1 (.tmp 24) (.const (.int .i64 1))⟩, []),
        (⟨some 26, none, .load1 (.tmp 25)⟩, []),
        (⟨some 27, none, .bin .geq t_int (.tmp 26) (.const (.int .i64 0))⟩, []),
        (⟨some 28, none, .mv (.tmp 27)⟩, []),
        (⟨some 29, some (28, true), .mv (.tmp 0)⟩, []),
        (⟨some 30, some (28, true), .idxS 1 (.tmp 29) (.const (.int .i64 1))⟩, []),
        (⟨some 31, some (28, true), .load1 (.tmp 30)⟩, []),
        (⟨some 32, some (28, true), .bin .leq t_int (.tmp 31) (.const (.int .i64 255))⟩, []),
        (⟨some 33, none, .pick (.tmp 28) (.tmp 32) (.const (.bool false))⟩, []),
        (⟨some 2, none, .mv (.tmp 23)⟩, []),
        (⟨some 3, none, .mv (.const (.int .i64 2))⟩, []),
        (⟨some 4, none, .mv (.tmp 33)⟩, [])])
      (.ret))
     (.skip)))
   (.seq
    (.seq
     (.ops [
       ⟨some 34, none, .mv (.tmp 0)⟩,
       ⟨some 35, none, .len (.tmp 34)⟩,
       ⟨some 36, none, .bin .lss t_int (.tmp 35) (.const (.int .i64 4))⟩,
       ⟨some 37, none, .mv (.tmp 36)⟩,
       ⟨some 38, some (37, false), .mv (.tmp 0)⟩,
       ⟨some 39, some (37, false), .idxS 1 (.tmp 38) (.const (.int .i64 0))⟩,
       ⟨some 40, some (37, false), .load1 (.tmp 39)⟩,
       ⟨some 41, some (37, false), .bin .neq t_int (.tmp 40) (.const (.int .i64 2))⟩,
       ⟨some 42, none, .pick (.tmp 37) (.const (.bool true)) (.tmp 41)⟩])
     (.cond (.tmp 42)
      (.seq
       (.ops [
         ⟨some 43, none, .mv (.tmp 0)⟩,
         ⟨some 44, none, .len (.tmp 43)⟩,
         ⟨some 2, none, .mv (.const (.int .u32 0))⟩,
         ⟨some 3, none, .mv (.tmp 44)⟩,
         ⟨some 4, none, .mv (.const (.bool false))⟩])
       (.ret))
      (.skip)))
    (.seq
     (.ops [
       ⟨some 5, none, .mv (.const (.int .u32 0))⟩,
       ⟨some 6, none, .mv (.const (.bool true))⟩])
     (.seq
      (.seq
       (.ops [
         ⟨some 45, none, .mv (.tmp 0)⟩,
         ⟨some 46, none, .gen (.slice t_S_int (.tmp 45) (some (.const (.int .i64 1))) (some (.const (.int .i64 4))) none) t_S_int⟩,
         ⟨some 47, none, .len (.tmp 46)⟩,
         ⟨some 48, none, .mv (.const (.int .i64 0))⟩])
       (.block 0
        (.loop
         (.seq
          (.ops [
            ⟨some 49, none, .bin .lss t_int (.tmp 48) (.tmp 47)⟩])
          (.seq
           (.cond (.tmp 49)
            (.skip)
            (.exit 0))
           (.seq
            (.block 1
             (.seq
              (.ops [
                ⟨some 50, none, .idxS 1 (.tmp 46) (.tmp 48)⟩,
                ⟨some 51, none, .load1 (.tmp 50)⟩,
                ⟨some 8, none, .mv (.tmp 51)⟩])
              (.seq
               (.ops [
                 ⟨some 52, none, .mv (.tmp 6)⟩,
                 ⟨some 53, none, .mv (.tmp 52)⟩,
                 ⟨some 54, some (53, true), .mv (.tmp 8)⟩,
                 ⟨some 55, some (53, true), .bin .geq t_int (.tmp 54) (.const (.int .i64 0))⟩,
                 ⟨some 56, none, .pick (.tmp 53) (.tmp 55) (.const (.bool false))⟩,
                 ⟨some 57, none, .mv (.tmp 56)⟩,
                 ⟨some 58, some (57, true), .mv (.tmp 8)⟩,
                 ⟨some 59, some (57, true), .bin .leq t_int (.tmp 58) (.const (.int .i64 255))⟩,
                 ⟨some 60, none, .pick (.tmp 57) (.tmp 59) (.const (.bool false))⟩,
                 ⟨some 6, none, .mv (.tmp 60)⟩])
               (.ops [
                 ⟨some 61, none, .mv (.tmp 5)⟩,
                 ⟨some 62, none, .gen (.binOp .shl t_uint32 (.tmp 61) (.const (.int .u64 8)) t_uint) t_uint32⟩,
                 ⟨some 63, none, .mv (.tmp 8)⟩,
                 ⟨some 64, none, .gen (.binOp .and t_int (.tmp 63) (.const (.int .i64 255)) t_int) t_int⟩,
                 ⟨some 65, none, .gen (.convert t_int t_uint32 (.tmp 64)) t_uint32⟩,
                 ⟨some 66, none, .gen (.binOp .or t_uint32 (.tmp 62) (.tmp 65) t_uint32) t_uint32⟩,
                 ⟨some 5, none, .mv (.tmp 66)⟩]))))
            (.ops [
              ⟨some 67, none, .bin .add t_int (.tmp 48) (.const (.int .i64 1))⟩,
              ⟨some 48, none, .mv (.tmp 67)⟩])))))))
      (.seq
       (.ops [
         ⟨some 68, none, .mv (.tmp 5)⟩,
         ⟨some 69, none, .bin .add t_uint32 (.const (.int .u32 33554432)) (.tmp 68)⟩,
         ⟨some 70, none, .mv (.tmp 6)⟩,
         ⟨some 2, none, .mv (.tmp 69)⟩,
         ⟨some 3, none, .mv (.const (.int .i64 4))⟩,
         ⟨some 4, none, .mv (.tmp 70)⟩])
       (.ret))))))),
 [.tmp 2, .tmp 3, .tmp 4]⟩

/-- slices.Index[[]int,int] -/
def a_slices_Index_int_int : AFn := ⟨19,
 (.seq
  (.ops [
    ⟨some 4, none, .mv (.const (.int .i64 0))⟩])
  (.seq
   (.seq
    (.ops [
      ⟨some 6, none, .mv (.tmp 0)⟩,
      ⟨some 7, none, .len (.tmp 6)⟩,
      ⟨some 8, none, .mv (.const (.int .i64 0))⟩])
    (.block 0
     (.loop
      (.seq
       (.ops [
         ⟨some 9, none, .bin .lss t_int (.tmp 8) (.tmp 7)⟩])
       (.seq
        (.cond (.tmp 9)
         (.skip)
         (.exit 0))
        (.seq
         (.block 1
          (.seq
           (.ops [
             ⟨some 10, none, .mv (.tmp 8)⟩,
             ⟨some 5, none, .mv (.tmp 10)⟩])
           (.seq
            (.ops [
              ⟨some 11, none, .mv (.tmp 1)⟩,
              ⟨some 12, none, .mv (.tmp 0)⟩,
              ⟨some 13, none, .mv (.tmp 5)⟩,
              ⟨some 14, none, .idxS 1 (.tmp 12) (.tmp 13)⟩,
              ⟨some 15, none, .load1 (.tmp 14)⟩,
              ⟨some 16, none, .bin .eql t_int (.tmp 11) (.tmp 15)⟩])
            (.cond (.tmp 16)
             (.seq
              (.ops [
                ⟨some 17, none, .mv (.tmp 5)⟩,
                ⟨some 4, none, .mv (.tmp 17)⟩])
              (.ret))
             (.skip)))))
         (.ops [
           ⟨some 18, none, .bin .add t_int (.tmp 8) (.const (.int .i64 1))⟩,
           ⟨some 8, none, .mv (.tmp 18)⟩])))))))
   (.seq
    (.ops [
      ⟨some 4, none, .mv (.const (.int .i64 (-1)))⟩])
    (.ret)))),
 [.tmp 4]⟩

/-- internal/stringslite.HasPrefix -/
def a_stringslite_HasPrefix : AFn := ⟨18,
 (.seq
  (.ops [
    ⟨some 4, none, .mv (.const (.bool false))⟩])
  (.seq
   (.ops [
     ⟨some 5, none, .mv (.tmp 0)⟩,
     ⟨some 6, none, .gen (.call ⟨.builtin .len, #[(.tmp 5)], #[t_string]⟩) t_int⟩,
     ⟨some 7, none, .mv (.tmp 1)⟩,
     ⟨some 8, none, .gen (.call ⟨.builtin .len, #[(.tmp 7)], #[t_string]⟩) t_int⟩,
     ⟨some 9, none, .bin .geq t_int (.tmp 6) (.tmp 8)⟩,
     ⟨some 10, none, .mv (.tmp 9)⟩,
     ⟨some 11, some (10, true), .mv (.tmp 0)⟩,
     ⟨some 12, some (10, true), .mv (.tmp 1)⟩,
     ⟨some 13, some (10, true), .gen (.call ⟨.builtin .len, #[(.tmp 12)], #[t_string]⟩) t_int⟩,
     ⟨some 14, some (10, true), .gen (.slice t_string (.tmp 11) none (some (.tmp 13)) none) t_string⟩,
     ⟨some 15, some (10, true), .mv (.tmp 1)⟩,
     ⟨some 16, some (10, true), .gen (.binOp .eql t_string (.tmp 14) (.tmp 15) t_string) t_bool⟩,
     ⟨some 17, none, .pick (.tmp 10) (.tmp 16) (.const (.bool false))⟩,
     ⟨some 4, none, .mv (.tmp 17)⟩])
   (.ret))),
 [.tmp 4]⟩

/-- osc.follows -/
def a_osc_follows : AFn := ⟨9,
 (.seq
  (.ops [
    ⟨some 2, none, .mv (.const (.bool false))⟩])
  (.seq
   (.ops [
     ⟨some 3, none, .mv (.tmp 0)⟩,
     ⟨some 4, none, .bin .geq t_uint8 (.tmp 3) (.const (.int .u8 128))⟩,
     ⟨some 5, none, .mv (.tmp 4)⟩,
     ⟨some 6, some (5, true), .mv (.tmp 0)⟩,
     ⟨some 7, some (5, true), .bin .leq t_uint8 (.tmp 6) (.const (.int .u8 191))⟩,
     ⟨some 8, none, .pick (.tmp 5) (.tmp 7) (.const (.bool false))⟩,
     ⟨some 2, none, .mv (.tmp 8)⟩])
   (.ret))),
 [.tmp 2]⟩

/-- strings.IndexByte -/
def a_strings_IndexByte : AFn := ⟨8,
 (.seq
  (.ops [
    ⟨some 4, none, .mv (.const (.int .i64 0))⟩])
  (.seq
   (.ops [
     ⟨some 5, none, .mv (.tmp 0)⟩,
     ⟨some 6, none, .mv (.tmp 1)⟩,
     ⟨some 7, none, .call n_stringslite_IndexByte [(.tmp 5), (.tmp 6)]⟩,
     ⟨some 4, none, .mv (.tmp 7)⟩])
   (.ret))),
 [.tmp 4]⟩

/-- base.Read -/
def a_base_Read : AFn := ⟨57,
 (.seq
  (.ops [
    ⟨some 2, none, .mv (.const (.slice none 0 0))⟩,
    ⟨some 3, none, .mv (.const (.int .i64 0))⟩])
  (.seq
   (.block 0
    (.seq
     (.ops [
       ⟨some 10, none, .mv (.tmp 0)⟩,
       ⟨some 11, none, .gen (.call ⟨.builtin .len, #[(.tmp 10)], #[t_string]⟩) t_int⟩,
       ⟨some 12, none, .bin .gtr t_int (.tmp 11) (.const (.int .i64 90000))⟩,
       ⟨some 9, none, .mv (.tmp 12)⟩])
     (.cond (.tmp 9)
      (.seq
       (.ops [
         ⟨some 2, none, .mv (.const (.slice none 0 0))⟩,
         ⟨some 3, none, .mv (.const (.int .i64 2))⟩])
       (.ret))
      (.seq
       (.ops [
         ⟨some 14, none, .mv (.tmp 0)⟩,
         ⟨some 15, none, .call n_base_Fault [(.tmp 14)]⟩,
         ⟨some 16, none, .bin .geq t_int (.tmp 15) (.const (.int .i64 0))⟩,
         ⟨some 13, none, .mv (.tmp 16)⟩])
       (.cond (.tmp 13)
        (.seq
         (.ops [
           ⟨some 2, none, .mv (.const (.slice none 0 0))⟩,
           ⟨some 3, none, .mv (.const (.int .i64 3))⟩])
         (.ret))
        (.skip))))))
   (.seq
    (.ops [
      ⟨some 4, none, .mv (.const (.slice none 0 0))⟩])
    (.seq
     (.block 1
      (.loop
       (.seq
        (.seq
         (.ops [
           ⟨some 17, none, .mv (.tmp 0)⟩,
           ⟨some 18, none, .gen (.call ⟨.builtin .len, #[(.tmp 17)], #[t_string]⟩) t_int⟩,
           ⟨some 19, none, .bin .gtr t_int (.tmp 18) (.const (.int .i64 0))⟩])
         (.cond (.tmp 19)
          (.skip)
          (.exit 1)))
        (.seq
         (.block 2
          (.seq
           (.ops [
             ⟨some 5, none, .mv (.const (.int .u32 0))⟩,
             ⟨some 6, none, .mv (.const (.int .i64 3))⟩])
           (.seq
            (.seq
             (.ops [
               ⟨some 22, none, .mv (.const (.int .i64 0))⟩])
             (.block 3
              (.loop
               (.seq
                (.ops [
                  ⟨some 23, none, .bin .lss t_int (.tmp 22) (.const (.int .i64 4))⟩])
                (.seq
                 (.cond (.tmp 23)
                  (.skip)
                  (.exit 3))
                 (.seq
                  (.block 4
                   (.seq
                    (.ops [
                      ⟨some 24, none, .mv (.tmp 22)⟩,
                      ⟨some 7, none, .mv (.tmp 24)⟩])
                    (.seq
                     (.ops [
                       ⟨some 25, none, .mv (.tmp 5)⟩,
                       ⟨some 26, none, .gen (.binOp .shl t_uint32 (.tmp 25) (.const (.int .u64 6)) t_uint) t_uint32⟩,
                       ⟨some 5, none, .mv (.tmp 26)⟩])
                     (.seq
                      (.seq
                       (.ops [
                         ⟨some 27, none, .mv (.tmp 0)⟩,
                         ⟨some 28, none, .mv (.tmp 7)⟩,
                         ⟨some 29, none, .gen (.index t_string (.tmp 27) (.tmp 28)) t_uint8⟩,
                         ⟨some 30, none, .bin .eql t_uint8 (.tmp 29) (.const (.int .u8 61))⟩])
                       (.cond (.tmp 30)
                        (.seq
                         (.ops [
                           ⟨some 31, none, .mv (.tmp 6)⟩,
                           ⟨some 32, none, .bin .sub t_int (.tmp 31) (.const (.int .i64 1))⟩,
                           ⟨some 6, none, .mv (.tmp 32)⟩])
                         (.exit 4))
                        (.skip)))
                      (.ops [
                        ⟨some 33, none, .mv (.tmp 5)⟩,
                        ⟨some 34, none, .mv (.tmp 0)⟩,
                        ⟨some 35, none, .mv (.tmp 7)⟩,
                        ⟨some 36, none, .gen (.index t_string (.tmp 34) (.tmp 35)) t_uint8⟩,
                        ⟨some 37, none, .call n_base_value [(.tmp 36)]⟩,
                        ⟨some 38, none, .gen (.convert t_int t_uint32 (.tmp 37)) t_uint32⟩,
                        ⟨some 39, none, .gen (.binOp .or t_uint32 (.tmp 33) (.tmp 38) t_uint32) t_uint32⟩,
                        ⟨some 5, none, .mv (.tmp 39)⟩])))))
                  (.ops [
                    ⟨some 40, none, .bin .add t_int (.tmp 22) (.const (.int .i64 1))⟩,
                    ⟨some 22, none, .mv (.tmp 40)⟩])))))))
            (.seq
             (.ops [
               ⟨some 41, none, .mv (.tmp 5)⟩,
               ⟨some 42, none, .gen (.binOp .shr t_uint32 (.tmp 41) (.const (.int .u64 16)) t_uint) t_uint32⟩,
               ⟨some 43, none, .gen (.convert t_uint32 t_uint8 (.tmp 42)) t_uint8⟩,
               ⟨some 44, none, .mv (.tmp 5)⟩,
               ⟨some 45, none, .gen (.binOp .shr t_uint32 (.tmp 44) (.const (.int .u64 8)) t_uint) t_uint32⟩,
               ⟨some 46, none, .gen (.convert t_uint32 t_uint8 (.tmp 45)) t_uint8⟩,
               ⟨some 47, none, .mv (.tmp 5)⟩,
               ⟨some 48, none, .gen (.convert t_uint32 t_uint8 (.tmp 47)) t_uint8⟩,
               ⟨some 49, none, .gen (.buildSlice t_S_uint8 3 #[(0, (.tmp 43)), (1, (.tmp 46)), (2, (.tmp 48))]) t_S_uint8⟩,
               ⟨some 8, none, .mv (.tmp 49)⟩])
             (.ops [
               ⟨some 50, none, .mv (.tmp 4)⟩,
               ⟨some 51, none, .mv (.tmp 8)⟩,
               ⟨some 52, none, .mv (.tmp 6)⟩,
               ⟨some 53, none, .mv (.tmp 6)⟩,
               ⟨some 54, none, .gen (.slice t_S_uint8 (.tmp 51) none (some (.tmp 52)) (some (.tmp 53))) t_S_uint8⟩,
               ⟨some 55, none, .gen (.call ⟨.builtin .append, #[(.tmp 50), (.tmp 54)], #[t_S_uint8, t_S_uint8]⟩) t_S_uint8⟩,
               ⟨some 4, none, .mv (.tmp 55)⟩])))))
         (.ops [
           ⟨some 20, none, .mv (.tmp 0)⟩,
           ⟨some 21, none, .gen (.slice t_string (.tmp 20) (some (.const (.int .i64 4))) none none) t_string⟩,
           ⟨some 0, none, .mv (.tmp 21)⟩])))))
     (.seq
      (.ops [
        ⟨some 56, none, .mv (.tmp 4)⟩,
        ⟨some 2, none, .mv (.tmp 56)⟩,
        ⟨some 3, none, .mv (.const (.int .i64 0))⟩])
      (.ret)))))),
 [.tmp 2, .tmp 3]⟩

/-- vint.tops -/
def a_vint_tops : AFn := ⟨2,
 (.seq
  (.ops [
    ⟨some 0, none, .new t_4_uint64 [(.int .u64 0), (.int .u64 0), (.int .u64 0), (.int .u64 0)]⟩])
  (.seq
   (.ops [
     ⟨some 1, none, .gen (.build t_4_uint64 #[(0, (.const (.int .u64 64))), (1, (.const (.int .u64 16384))), (2, (.const (.int .u64 1073741824))), (3, (.const (.int .u64 4611686018427387904)))]) t_4_uint64⟩,
     ⟨none, none, .store 4 (.tmp 0) (.tmp 1)⟩])
   (.ret))),
 [.cell 0 t_4_uint64]⟩

/-- math/bits.Mul32 -/
def a_math_bits_Mul32 : AFn := ⟨17,
 (.seq
  (.ops [
    ⟨some 4, none, .mv (.const (.int .u32 0))⟩,
    ⟨some 5, none, .mv (.const (.int .u32 0))⟩])
  (.seq
   (.ops [
     ⟨some 7, none, .mv (.tmp 0)⟩,
     ⟨some 8, none, .gen (.convert t_uint32 t_uint64 (.tmp 7)) t_uint64⟩,
     ⟨some 9, none, .mv (.tmp 1)⟩,
     ⟨some 10, none, .gen (.convert t_uint32 t_uint64 (.tmp 9)) t_uint64⟩,
     ⟨some 11, none, .bin .mul t_uint64 (.tmp 8) (.tmp 10)⟩,
     ⟨some 6, none, .mv (.tmp 11)⟩])
   (.seq
    (.ops [
      ⟨some 12, none, .mv (.tmp 6)⟩,
      ⟨some 13, none, .gen (.binOp .shr t_uint64 (.tmp 12) (.const (.int .u64 32)) t_uint) t_uint64⟩,
      ⟨some 14, none, .gen (.convert t_uint64 t_uint32 (.tmp 13)) t_uint32⟩,
      ⟨some 15, none, .mv (.tmp 6)⟩,
      ⟨some 16, none, .gen (.convert t_uint64 t_uint32 (.tmp 15)) t_uint32⟩,
      ⟨some 4, none, .mv (.tmp 14)⟩,
      ⟨some 5, none, .mv (.tmp 16)⟩])
    (.ret)))),
 [.tmp 4, .tmp 5]⟩

/-- math/bits.Mul64 -/
def a_math_bits_Mul64 : AFn := ⟨51,
 (.seq
  (.ops [
    ⟨some 4, none, .mv (.const (.int .u64 0))⟩,
    ⟨some 5, none, .mv (.const (.int .u64 0))⟩])
  (.seq
   (.ops [
     ⟨some 14, none, .mv (.tmp 0)⟩,
     ⟨some 15, none, .gen (.binOp .and t_uint64 (.tmp 14) (.const (.int .u64 4294967295)) t_uint64) t_uint64⟩,
     ⟨some 6, none, .mv (.tmp 15)⟩])
   (.seq
    (.ops [
      ⟨some 16, none, .mv (.tmp 0)⟩,
      ⟨some 17, none, .gen (.binOp .shr t_uint64 (.tmp 16) (.const (.int .u64 32)) t_uint) t_uint64⟩,
      ⟨some 7, none, .mv (.tmp 17)⟩])
    (.seq
     (.ops [
       ⟨some 18, none, .mv (.tmp 1)⟩,
       ⟨some 19, none, .gen (.binOp .and t_uint64 (.tmp 18) (.const (.int .u64 4294967295)) t_uint64) t_uint64⟩,
       ⟨some 8, none, .mv (.tmp 19)⟩])
     (.seq
      (.ops [
        ⟨some 20, none, .mv (.tmp 1)⟩,
        ⟨some 21, none, .gen (.binOp .shr t_uint64 (.tmp 20) (.const (.int .u64 32)) t_uint) t_uint64⟩,
        ⟨some 9, none, .mv (.tmp 21)⟩])
      (.seq
       (.ops [
         ⟨some 22, none, .mv (.tmp 6)⟩,
         ⟨some 23, none, .mv (.tmp 8)⟩,
         ⟨some 24, none, .bin .mul t_uint64 (.tmp 22) (.tmp 23)⟩,
         ⟨some 10, none, .mv (.tmp 24)⟩])
       (.seq
        (.ops [
          ⟨some 25, none, .mv (.tmp 7)⟩,
          ⟨some 26, none, .mv (.tmp 8)⟩,
          ⟨some 27, none, .bin .mul t_uint64 (.tmp 25) (.tmp 26)⟩,
          ⟨some 28, none, .mv (.tmp 10)⟩,
          ⟨some 29, none, .gen (.binOp .shr t_uint64 (.tmp 28) (.const (.int .u64 32)) t_uint) t_uint64⟩,
          ⟨some 30, none, .bin .add t_uint64 (.tmp 27) (.tmp 29)⟩,
          ⟨some 11, none, .mv (.tmp 30)⟩])
        (.seq
         (.ops [
           ⟨some 31, none, .mv (.tmp 11)⟩,
           ⟨some 32, none, .gen (.binOp .and t_uint64 (.tmp 31) (.const (.int .u64 4294967295)) t_uint64) t_uint64⟩,
           ⟨some 12, none, .mv (.tmp 32)⟩])
         (.seq
          (.ops [
            ⟨some 33, none, .mv (.tmp 11)⟩,
            ⟨some 34, none, .gen (.binOp .shr t_uint64 (.tmp 33) (.const (.int .u64 32)) t_uint) t_uint64⟩,
            ⟨some 13, none, .mv (.tmp 34)⟩])
          (.seq
           (.ops [
             ⟨some 35, none, .mv (.tmp 12)⟩,
             ⟨some 36, none, .mv (.tmp 6)⟩,
             ⟨some 37, none, .mv (.tmp 9)⟩,
             ⟨some 38, none, .bin .mul t_uint64 (.tmp 36) (.tmp 37)⟩,
             ⟨some 39, none, .bin .add t_uint64 (.tmp 35) (.tmp 38)⟩,
             ⟨some 12, none, .mv (.tmp 39)⟩])
           (.seq
            (.ops [
              ⟨some 40, none, .mv (.tmp 7)⟩,
              ⟨some 41, none, .mv (.tmp 9)⟩,
              ⟨some 42, none, .bin .mul t_uint64 (.tmp 40) (.tmp 41)⟩,
              ⟨some 43, none, .mv (.tmp 13)⟩,
              ⟨some 44, none, .bin .add t_uint64 (.tmp 42) (.tmp 43)⟩,
              ⟨some 45, none, .mv (.tmp 12)⟩,
              ⟨some 46, none, .gen (.binOp .shr t_uint64 (.tmp 45) (.const (.int .u64 32)) t_uint) t_uint64⟩,
              ⟨some 47, none, .bin .add t_uint64 (.tmp 44) (.tmp 46)⟩,
              ⟨some 4, none, .mv (.tmp 47)⟩])
            (.seq
             (.ops [
               ⟨some 48, none, .mv (.tmp 0)⟩,
               ⟨some 49, none, .mv (.tmp 1)⟩,
               ⟨some 50, none, .bin .mul t_uint64 (.tmp 48) (.tmp 49)⟩,
               ⟨some 5, none, .mv (.tmp 50)⟩])
             (.ret))))))))))))),
 [.tmp 4, .tmp 5]⟩

/-- style.flag -/
def a_style_flag : AFn := ⟨23,
 (.seq
  (.ops [
    ⟨some 2, none, .mv (.const (.int .u8 0))⟩])
  (.seq
   (.block 0
    (.seq
     (.ops [
       ⟨some 4, none, .mv (.tmp 0)⟩,
       ⟨some 5, none, .bin .geq t_int (.tmp 4) (.const (.int .i64 1))⟩,
       ⟨some 6, none, .mv (.tmp 5)⟩,
       ⟨some 7, some (6, true), .mv (.tmp 0)⟩,
       ⟨some 8, some (6, true), .bin .leq t_int (.tmp 7) (.const (.int .i64 5))⟩,
       ⟨some 9, none, .pick (.tmp 6) (.tmp 8) (.const (.bool false))⟩,
       ⟨some 3, none, .mv (.tmp 9)⟩])
     (.cond (.tmp 3)
      (.seq
       (.ops [
         ⟨some 10, none, .mv (.tmp 0)⟩,
         ⟨some 11, none, .bin .sub t_int (.tmp 10) (.const (.int .i64 1))⟩,
         ⟨some 12, none, .gen (.binOp .shl t_uint8 (.const (.int .u8 1)) (.tmp 11) t_int) t_uint8⟩,
         ⟨some 2, none, .mv (.tmp 12)⟩])
       (.ret))
      (.seq
       (.ops [
         ⟨some 14, none, .mv (.tmp 0)⟩,
         ⟨some 15, none, .bin .geq t_int (.tmp 14) (.const (.int .i64 7))⟩,
         ⟨some 16, none, .mv (.tmp 15)⟩,
         ⟨some 17, some (16, true), .mv (.tmp 0)⟩,
         ⟨some 18, some (16, true), .bin .leq t_int (.tmp 17) (.const (.int .i64 9))⟩,
         ⟨some 19, none, .pick (.tmp 16) (.tmp 18) (.const (.bool false))⟩,
         ⟨some 13, none, .mv (.tmp 19)⟩])
       (.cond (.tmp 13)
        (.seq
         (.ops [
           ⟨some 20, none, .mv (.tmp 0)⟩,
           ⟨some 21, none, .bin .sub t_int (.tmp 20) (.const (.int .i64 2))⟩,
           ⟨some 22, none, .gen (.binOp .shl t_uint8 (.const (.int .u8 1)) (.tmp 21) t_int) t_uint8⟩,
           ⟨some 2, none, .mv (.tmp 22)⟩])
         (.ret))
        (.skip))))))
   (.seq
    (.ops [
      ⟨some 2, none, .mv (.const (.int .u8 0))⟩])
    (.ret)))),
 [.tmp 2]⟩

/-- internal/stringslite.IndexByte -/
def a_stringslite_IndexByte : AFn := ⟨8,
 (.seq
  (.ops [
    ⟨some 4, none, .mv (.const (.int .i64 0))⟩])
  (.seq
   (.ops [
     ⟨some 5, none, .mv (.tmp 0)⟩,
     ⟨some 6, none, .mv (.tmp 1)⟩,
     ⟨some 7, none, .call n_bytealg_IndexByteString [(.tmp 5), (.tmp 6)]⟩,
     ⟨some 4, none, .mv (.tmp 7)⟩])
   (.ret))),
 [.tmp 4]⟩

/-- base.Fault -/
def a_base_Fault : AFn := ⟨44,
 (.seq
  (.ops [
    ⟨some 2, none, .mv (.const (.int .i64 0))⟩])
  (.seq
   (.seq
    (.ops [
      ⟨some 3, none, .mv (.const (.int .i64 0))⟩])
    (.block 0
     (.loop
      (.seq
       (.seq
        (.ops [
          ⟨some 6, none, .mv (.tmp 3)⟩,
          ⟨some 7, none, .mv (.tmp 0)⟩,
          ⟨some 8, none, .gen (.call ⟨.builtin .len, #[(.tmp 7)], #[t_string]⟩) t_int⟩,
          ⟨some 9, none, .bin .lss t_int (.tmp 6) (.tmp 8)⟩])
        (.cond (.tmp 9)
         (.skip)
         (.exit 0)))
       (.seq
        (.block 1
         (.seq
          (.ops [
            ⟨some 12, none, .mv (.tmp 0)⟩,
            ⟨some 13, none, .mv (.tmp 3)⟩,
            ⟨some 14, none, .mv (.tmp 3)⟩,
            ⟨some 15, none, .bin .add t_int (.tmp 14) (.const (.int .i64 4))⟩,
            ⟨some 16, none, .mv (.tmp 0)⟩,
            ⟨some 17, none, .gen (.call ⟨.builtin .len, #[(.tmp 16)], #[t_string]⟩) t_int⟩,
            ⟨some 18, none, .gen (.call ⟨.builtin .min, #[(.tmp 15), (.tmp 17)], #[t_int, t_int]⟩) t_int⟩,
            ⟨some 19, none, .gen (.slice t_string (.tmp 12) (some (.tmp 13)) (some (.tmp 18)) none) t_string⟩,
            ⟨some 4, none, .mv (.tmp 19)⟩])
          (.seq
           (.seq
            (.ops [
              ⟨some 20, none, .mv (.tmp 4)⟩,
              ⟨some 21, none, .call n_base_ends [(.tmp 20)]⟩,
              ⟨some 5, none, .mv (.tmp 21)⟩])
            (.seq
             (.ops [
               ⟨some 22, none, .mv (.tmp 5)⟩,
               ⟨some 23, none, .bin .geq t_int (.tmp 22) (.const (.int .i64 0))⟩])
             (.cond (.tmp 23)
              (.seq
               (.ops [
                 ⟨some 24, none, .mv (.tmp 3)⟩,
                 ⟨some 25, none, .mv (.tmp 5)⟩,
                 ⟨some 26, none, .bin .add t_int (.tmp 24) (.tmp 25)⟩,
                 ⟨some 2, none, .mv (.tmp 26)⟩])
               (.ret))
              (.skip))))
           (.seq
            (.seq
             (.ops [
               ⟨some 27, none, .mv (.tmp 4)⟩,
               ⟨some 28, none, .gen (.call ⟨.builtin .len, #[(.tmp 27)], #[t_string]⟩) t_int⟩,
               ⟨some 29, none, .bin .lss t_int (.tmp 28) (.const (.int .i64 4))⟩])
             (.cond (.tmp 29)
              (.seq
               (.ops [
                 ⟨some 30, none, .mv (.tmp 0)⟩,
                 ⟨some 31, none, .gen (.call ⟨.builtin .len, #[(.tmp 30)], #[t_string]⟩) t_int⟩,
                 ⟨some 2, none, .mv (.tmp 31)⟩])
               (.ret))
              (.skip)))
            (.seq
             (.ops [
               ⟨some 32, none, .mv (.tmp 4)⟩,
               ⟨some 33, none, .gen (.index t_string (.tmp 32) (.const (.int .i64 3))) t_uint8⟩,
               ⟨some 34, none, .bin .eql t_uint8 (.tmp 33) (.const (.int .u8 61))⟩,
               ⟨some 35, none, .mv (.tmp 34)⟩,
               ⟨some 36, some (35, true), .mv (.tmp 3)⟩,
               ⟨some 37, some (35, true), .bin .add t_int (.tmp 36) (.const (.int .i64 4))⟩,
               ⟨some 38, some (35, true), .mv (.tmp 0)⟩,
               ⟨some 39, some (35, true), .gen (.call ⟨.builtin .len, #[(.tmp 38)], #[t_string]⟩) t_int⟩,
               ⟨some 40, some (35, true), .bin .lss t_int (.tmp 37) (.tmp 39)⟩,
               ⟨some 41, none, .pick (.tmp 35) (.tmp 40) (.const (.bool false))⟩])
             (.cond (.tmp 41)
              (.seq
               (.ops [
                 ⟨some 42, none, .mv (.tmp 3)⟩,
                 ⟨some 43, none, .bin .add t_int (.tmp 42) (.const (.int .i64 4))⟩,
                 ⟨some 2, none, .mv (.tmp 43)⟩])
               (.ret))
              (.skip)))))))
        (.ops [
          ⟨some 10, none, .mv (.tmp 3)⟩,
          ⟨some 11, none, .bin .add t_int (.tmp 10) (.const (.int .i64 4))⟩,
          ⟨some 3, none, .mv (.tmp 11)⟩]))))))
   (.seq
    (.ops [
      ⟨some 2, none, .mv (.const (.int .i64 (-1)))⟩])
    (.ret)))),
 [.tmp 2]⟩

/-- base.value -/
def a_base_value : AFn := ⟨5,
 (.seq
  (.ops [
    ⟨some 2, none, .mv (.const (.int .i64 0))⟩])
  (.seq
   (.ops [
     ⟨some 3, none, .mv (.tmp 0)⟩,
     ⟨some 4, none, .call n_strings_IndexByte [(.const (.string ⟨#[65, 66, 67, 68, 69, 70, 71, 72, 73, 74, 75, 76, 77, 78, 79, 80, 81, 82, 83, 84, 85, 86, 87, 88, 89, 90, 97, 98, 99, 100, 101, 102, 103, 104, 105, 106, 107, 108, 109, 110, 111, 112, 113, 114, 115, 116, 117, 118, 119, 120, 121, 122, 48, 49, 50, 51, 52, 53, 54, 55, 56, 57, 43, 47]⟩)), (.tmp 3)]⟩,
     ⟨some 2, none, .mv (.tmp 4)⟩])
   (.ret))),
 [.tmp 2]⟩

/- 304 internal/bytealg.IndexByteString: none -/
/-- base.ends -/
def a_base_ends : AFn := ⟨87,
 (.seq
  (.ops [
    ⟨some 2, none, .mv (.const (.int .i64 0))⟩])
  (.seq
   (.seq
    (.ops [
      ⟨some 5, none, .mv (.tmp 0)⟩,
      ⟨some 6, none, .gen (.range t_string (.tmp 5)) t_0⟩])
    (.block 0
     (.loop
      (.seq
       (.ops [
         ⟨some 7, none, .gen (.next (.tmp 6) true) t_0⟩,
         ⟨some 8, none, .ext (.tmp 7) 0⟩])
       (.seq
        (.cond (.tmp 8)
         (.skip)
         (.exit 0))
        (.block 1
         (.seq
          (.ops [
            ⟨some 9, none, .ext (.tmp 7) 1⟩,
            ⟨some 3, none, .mv (.tmp 9)⟩])
          (.seq
           (.ops [
             ⟨some 10, none, .mv (.tmp 0)⟩,
             ⟨some 11, none, .mv (.tmp 3)⟩,
             ⟨some 12, none, .gen (.index t_string (.tmp 10) (.tmp 11)) t_uint8⟩,
             ⟨some 13, none, .call n_base_value [(.tmp 12)]⟩,
             ⟨some 4, none, .mv (.tmp 13)⟩])
           (.block 2
            (.seq
             (.ops [
               ⟨some 15, none, .mv (.tmp 3)⟩,
               ⟨some 16, none, .bin .eql t_int (.tmp 15) (.const (.int .i64 3))⟩,
               ⟨some 14, none, .mv (.tmp 16)⟩])
             (.cond (.tmp 14)
              (.seq
               (.ops [
                 ⟨some 17, none, .mv (.tmp 0)⟩,
                 ⟨some 18, none, .gen (.index t_string (.tmp 17) (.const (.int .i64 2))) t_uint8⟩,
                 ⟨some 19, none, .bin .eql t_uint8 (.tmp 18) (.const (.int .u8 61))⟩,
                 ⟨some 20, none, .mv (.tmp 19)⟩,
                 ⟨some 21, some (20, true), .mv (.tmp 0)⟩,
                 ⟨some 22, some (20, true), .gen (.index t_string (.tmp 21) (.const (.int .i64 3))) t_uint8⟩,
                 ⟨some 23, some (20, true), .bin .neq t_uint8 (.tmp 22) (.const (.int .u8 61))⟩,
                 ⟨some 24, none, .pick (.tmp 20) (.tmp 23) (.const (.bool false))⟩,
                 ⟨some 25, none, .mv (.tmp 24)⟩,
                 ⟨some 26, some (25, false), .mv (.tmp 0)⟩,
                 ⟨some 27, some (25, false), .gen (.index t_string (.tmp 26) (.const (.int .i64 2))) t_uint8⟩,
                 ⟨some 28, some (25, false), .bin .neq t_uint8 (.tmp 27) (.const (.int .u8 61))⟩,
                 ⟨some 29, some (25, false), .mv (.tmp 28)⟩,
                 ⟨some 30, some (29, true), .mv (.tmp 0)⟩,
                 ⟨some 31, some (29, true), .gen (.index t_string (.tmp 30) (.const (.int .i64 3))) t_uint8⟩,
                 ⟨some 32, some (29, true), .bin .neq t_uint8 (.tmp 31) (.const (.int .u8 61))⟩,
                 ⟨some 33, some (25, false), .pick (.tmp 29) (.tmp 32) (.const (.bool false))⟩,
                 ⟨some 34, some (25, false), .mv (.tmp 33)⟩,
                 ⟨some 35, some (34, true), .mv (.tmp 4)⟩,
                 ⟨some 36, some (34, true), .bin .lss t_int (.tmp 35) (.const (.int .i64 0))⟩,
                 ⟨some 37, some (25, false), .pick (.tmp 34) (.tmp 36) (.const (.bool false))⟩,
                 ⟨some 38, none, .pick (.tmp 25) (.const (.bool true)) (.tmp 37)⟩])
               (.cond (.tmp 38)
                (.seq
                 (.ops [
                   ⟨some 39, none, .mv (.tmp 3)⟩,
                   ⟨some 2, none, .mv (.tmp 39)⟩])
                 (.ret))
                (.skip)))
              (.seq
               (.ops [
                 ⟨some 41, none, .mv (.tmp 3)⟩,
                 ⟨some 42, none, .bin .eql t_int (.tmp 41) (.const (.int .i64 2))⟩,
                 ⟨some 40, none, .mv (.tmp 42)⟩])
               (.cond (.tmp 40)
                (.seq
                 (.ops [
                   ⟨some 43, none, .mv (.tmp 0)⟩,
                   ⟨some 44, none, .gen (.index t_string (.tmp 43) (.const (.int .i64 2))) t_uint8⟩,
                   ⟨some 45, none, .bin .eql t_uint8 (.tmp 44) (.const (.int .u8 61))⟩,
                   ⟨some 46, none, .mv (.tmp 45)⟩,
                   ⟨some 47, some (46, true), .mv (.tmp 0)⟩,
                   ⟨some 48, some (46, true), .gen (.index t_string (.tmp 47) (.const (.int .i64 1))) t_uint8⟩,
                   ⟨some 49, some (46, true), .call n_base_value [(.tmp 48)]⟩,
                   ⟨some 50, some (46, true), .gen (.binOp .and t_int (.tmp 49) (.const (.int .i64 15)) t_int) t_int⟩,
                   ⟨some 51, some (46, true), .bin .neq t_int (.tmp 50) (.const (.int .i64 0))⟩,
                   ⟨some 52, none, .pick (.tmp 46) (.tmp 51) (.const (.bool false))⟩,
                   ⟨some 53, none, .mv (.tmp 52)⟩,
                   ⟨some 54, some (53, false), .mv (.tmp 0)⟩,
                   ⟨some 55, some (53, false), .gen (.index t_string (.tmp 54) (.const (.int .i64 2))) t_uint8⟩,
                   ⟨some 56, some (53, false), .bin .neq t_uint8 (.tmp 55) (.const (.int .u8 61))⟩,
                   ⟨some 57, some (53, false), .mv (.tmp 56)⟩,
                   ⟨some 58, some (57, true), .mv (.tmp 4)⟩,
                   ⟨some 59, some (57, true), .bin .lss t_int (.tmp 58) (.const (.int .i64 0))⟩,
                   ⟨some 60, some (53, false), .pick (.tmp 57) (.tmp 59) (.const (.bool false))⟩,
                   ⟨some 61, none, .pick (.tmp 53) (.const (.bool true)) (.tmp 60)⟩])
                 (.cond (.tmp 61)
                  (.seq
                   (.ops [
                     ⟨some 62, none, .mv (.tmp 3)⟩,
                     ⟨some 2, none, .mv (.tmp 62)⟩])
                   (.ret))
                  (.skip)))
                (.seq
                 (.ops [
                   ⟨some 64, none, .mv (.tmp 4)⟩,
                   ⟨some 65, none, .bin .lss t_int (.tmp 64) (.const (.int .i64 0))⟩,
                   ⟨some 63, none, .mv (.tmp 65)⟩])
                 (.cond (.tmp 63)
                  (.seq
                   (.ops [
                     ⟨some 66, none, .mv (.tmp 3)⟩,
                     ⟨some 2, none, .mv (.tmp 66)⟩])
                   (.ret))
                  (.skip))))))))))))))))
   (.seq
    (.seq
     (.ops [
       ⟨some 67, none, .mv (.tmp 0)⟩,
       ⟨some 68, none, .gen (.call ⟨.builtin .len, #[(.tmp 67)], #[t_string]⟩) t_int⟩,
       ⟨some 69, none, .bin .eql t_int (.tmp 68) (.const (.int .i64 4))⟩,
       ⟨some 70, none, .mv (.tmp 69)⟩,
       ⟨some 71, some (70, true), .mv (.tmp 0)⟩,
       ⟨some 72, some (70, true), .gen (.index t_string (.tmp 71) (.const (.int .i64 3))) t_uint8⟩,
       ⟨some 73, some (70, true), .bin .eql t_uint8 (.tmp 72) (.const (.int .u8 61))⟩,
       ⟨some 74, none, .pick (.tmp 70) (.tmp 73) (.const (.bool false))⟩,
       ⟨some 75, none, .mv (.tmp 74)⟩,
       ⟨some 76, some (75, true), .mv (.tmp 0)⟩,
       ⟨some 77, some (75, true), .gen (.index t_string (.tmp 76) (.const (.int .i64 2))) t_uint8⟩,
       ⟨some 78, some (75, true), .bin .neq t_uint8 (.tmp 77) (.const (.int .u8 61))⟩,
       ⟨some 79, none, .pick (.tmp 75) (.tmp 78) (.const (.bool false))⟩,
       ⟨some 80, none, .mv (.tmp 79)⟩,
       ⟨some 81, some (80, true), .mv (.tmp 0)⟩,
       ⟨some 82, some (80, true), .gen (.index t_string (.tmp 81) (.const (.int .i64 2))) t_uint8⟩,
       ⟨some 83, some (80, true), .call n_base_value [(.tmp 82)]⟩,
       ⟨some 84, some (80, true), .gen (.binOp .and t_int (.tmp 83) (.const (.int .i64 3)) t_int) t_int⟩,
       ⟨some 85, some (80, true), .bin .neq t_int (.tmp 84) (.const (.int .i64 0))⟩,
       ⟨some 86, none, .pick (.tmp 80) (.tmp 85) (.const (.bool false))⟩])
     (.cond (.tmp 86)
      (.seq
       (.ops [
         ⟨some 2, none, .mv (.const (.int .i64 3))⟩])
       (.ret))
      (.skip)))
    (.seq
     (.ops [
       ⟨some 2, none, .mv (.const (.int .i64 (-1)))⟩])
     (.ret))))),
 [.tmp 2]⟩

/-- The codes, by number. -/
def lookN (f : Nat) : List (Nat × AFn) → Option AFn
  | [] => none
  | p :: l => cond (Nat.beq p.1 f) (some p.2) (lookN f l)
def codes0 : List (Nat × AFn) :=
 [(n_law35_EchoTrue, a_law35_EchoTrue),
  (n_law22_RegOf, a_law22_RegOf),
  (n_term_New, a_term_New),
  (n_law35_alive, a_law35_alive),
  (n_echo_New, a_echo_New),
  (n_reg_Of, a_reg_Of),
  (n_echo_Echo_See, a_echo_Echo_See),
  (n_echo_Echo_Type, a_echo_Echo_Type),
  (n_echo_Echo_Quiet, a_echo_Echo_Quiet),
  (n_term_Term_Feed, a_term_Term_Feed),
  (n_echo_Echo_Hits, a_echo_Echo_Hits),
  (n_echo_Echo_Misses, a_echo_Echo_Misses),
  (n_echo_Echo_Guesses, a_echo_Echo_Guesses),
  (n_echo_Echo_Show, a_echo_Echo_Show),
  (n_law19_Fits, a_law19_Fits),
  (n_view_Of, a_view_Of),
  (n_view_Right, a_view_Right),
  (n_law20_As, a_law20_As),
  (n_law22_alive, a_law22_alive),
  (n_term_Term_Resize, a_term_Term_Resize),
  (n_term_Term_Clip, a_term_Term_Clip),
  (n_term_Term_Grid, a_term_Term_Grid),
  (n_term_Term_Cursor, a_term_Term_Cursor),
  (n_reg_Right, a_reg_Right),
  (n_term_Term_Title, a_term_Term_Title),
  (n_term_Term_Bells, a_term_Term_Bells),
  (n_grid_Grid_Rows, a_grid_Grid_Rows),
  (n_ref20_Right, a_ref20_Right),
  (n_utf_New, a_utf_New),
  (n_ansi_New, a_ansi_New)]
def codes1 : List (Nat × AFn) :=
 [(n_grid_New, a_grid_New),
  (n_term_Term_reset, a_term_Term_reset),
  (n_reg_First, a_reg_First),
  (n_law35_wide, a_law35_wide),
  (n_echo_Echo_rest, a_echo_Echo_rest),
  (n_echo_Echo_is, a_echo_Echo_is),
  (n_slices_Clone_grid_Cell_grid_Cell, a_slices_Clone_grid_Cell_grid_Cell),
  (n_echo_Echo_right, a_echo_Echo_right),
  (n_echo_Echo_giveUp, a_echo_Echo_giveUp),
  (n_slices_Clone_echo_Guess_echo_Guess, a_slices_Clone_echo_Guess_echo_Guess),
  (n_echo_Echo_print, a_echo_Echo_print),
  (n_echo_Echo_rub, a_echo_Echo_rub),
  (n_term_Term_made, a_term_Term_made),
  (n_utf_Reader_Read, a_utf_Reader_Read),
  (n_ansi_Parser_Feed, a_ansi_Parser_Feed),
  (n_term_Term_print, a_term_Term_print),
  (n_term_Term_control, a_term_Term_control),
  (n_term_Term_escape, a_term_Term_escape),
  (n_term_Term_sequence, a_term_Term_sequence),
  (n_term_Term_system, a_term_Term_system),
  (n_echo_index, a_echo_index),
  (n_view_First, a_view_First),
  (n_view_Same, a_view_Same),
  (n_grid_Grid_Cols, a_grid_Grid_Cols),
  (n_grid_Grid_Line, a_grid_Grid_Line),
  (n_slices_ContainsFunc_grid_Cell_grid_Cell, a_slices_ContainsFunc_grid_Cell_grid_Cell),
  (n_view_Right_1, a_view_Right_1),
  (n_view_isCell, a_view_isCell),
  (n_law17_Cell, a_law17_Cell),
  (n_reg_Diff, a_reg_Diff)]
def codes2 : List (Nat × AFn) :=
 [(n_reg_Apply, a_reg_Apply),
  (n_reg_Same, a_reg_Same),
  (n_grid_Grid_Resize, a_grid_Grid_Resize),
  (n_grid_Blank, a_grid_Blank),
  (n_term_Term_region, a_term_Term_region),
  (n_term_Term_move, a_term_Term_move),
  (n_term_Term_g, a_term_Term_g),
  (n_grid_Grid_Copy, a_grid_Grid_Copy),
  (n_ref17_Grid_Has, a_ref17_Grid_Has),
  (n_ref20_IsCell, a_ref20_IsCell),
  (n_grid_fits, a_grid_fits),
  (n_grid_line, a_grid_line),
  (n_grid_Grid_Fill, a_grid_Grid_Fill),
  (n_echo_Echo_cursor, a_echo_Echo_cursor),
  (n_utf_Reader_begin, a_utf_Reader_begin),
  (n_ansi_Parser_take, a_ansi_Parser_take),
  (n_term_Term_index, a_term_Term_index),
  (n_grid_Grid_Insert, a_grid_Grid_Insert),
  (n_term_Term_erased, a_term_Term_erased),
  (n_grid_Grid_Put, a_grid_Grid_Put),
  (n_term_Term_tab, a_term_Term_tab),
  (n_term_Term_align, a_term_Term_align),
  (n_term_Term_back, a_term_Term_back),
  (n_term_Term_save, a_term_Term_save),
  (n_term_Term_restore, a_term_Term_restore),
  (n_term_Term_mode, a_term_Term_mode),
  (n_term_Term_travel, a_term_Term_travel),
  (n_term_Term_edit, a_term_Term_edit),
  (n_term_Term_set, a_term_Term_set),
  (n_osc_Read, a_osc_Read)]
def codes3 : List (Nat × AFn) :=
 [(n_slices_Clone_byte_byte, a_slices_Clone_byte_byte),
  (n_vint_Put, a_vint_Put),
  (n_vint_Get, a_vint_Get),
  (n_view_PutCell, a_view_PutCell),
  (n_view_GetCell, a_view_GetCell),
  (n_slices_Repeat_grid_Cell_grid_Cell, a_slices_Repeat_grid_Cell_grid_Cell),
  (n_bytes_Equal, a_bytes_Equal),
  (n_slices_Equal_grid_Cell_grid_Cell, a_slices_Equal_grid_Cell_grid_Cell),
  (n_grid_Grid_has, a_grid_Grid_has),
  (n_slices_IndexFunc_grid_Cell_grid_Cell, a_slices_IndexFunc_grid_Cell_grid_Cell),
  (n_utf_Is, a_utf_Is),
  (n_style_Right, a_style_Right),
  (n_law16_As, a_law16_As),
  (n_patch_Diff, a_patch_Diff),
  (n_reg_Diff_1, a_reg_Diff_1),
  (n_reg_State_clipping, a_reg_State_clipping),
  (n_vint_PutFields, a_vint_PutFields),
  (n_vint_Fields, a_vint_Fields),
  (n_vint_Find, a_vint_Find),
  (n_patch_Apply, a_patch_Apply),
  (n_grid_Grid_made, a_grid_Grid_made),
  (n_ref13_Is, a_ref13_Is),
  (n_ref16_Right, a_ref16_Right),
  (n_ansi_Parser_enter, a_ansi_Parser_enter),
  (n_ansi_Parser_operating, a_ansi_Parser_operating),
  (n_ansi_Parser_escaped, a_ansi_Parser_escaped),
  (n_ansi_Parser_control, a_ansi_Parser_control),
  (n_grid_Grid_Up, a_grid_Grid_Up),
  (n_grid_Grid_cells, a_grid_Grid_cells),
  (n_grid_Grid_Down, a_grid_Grid_Down)]
def codes4 : List (Nat × AFn) :=
 [(n_term_Term_home, a_term_Term_home),
  (n_term_Term_screen, a_term_Term_screen),
  (n_term_number, a_term_number),
  (n_term_Term_up, a_term_Term_up),
  (n_term_Term_down, a_term_Term_down),
  (n_term_Term_place, a_term_Term_place),
  (n_term_Term_display, a_term_Term_display),
  (n_term_Term_line, a_term_Term_line),
  (n_term_Term_lines, a_term_Term_lines),
  (n_grid_Grid_Delete, a_grid_Grid_Delete),
  (n_style_Change, a_style_Change),
  (n_slices_Contains_int_int, a_slices_Contains_int_int),
  (n_strings_HasPrefix, a_strings_HasPrefix),
  (n_osc_Cut, a_osc_Cut),
  (n_osc_clip, a_osc_clip),
  (n_vint_Size, a_vint_Size),
  (n_vint_class, a_vint_class),
  (n_style_Write, a_style_Write),
  (n_style_Read, a_style_Read),
  (n_math_bits_Mul, a_math_bits_Mul),
  (n_style_isColour, a_style_isColour),
  (n_ref16_Of, a_ref16_Of),
  (n_patch_base, a_patch_base),
  (n_patch_numbers, a_patch_numbers),
  (n_slices_IndexFunc_vint_Field_vint_Field, a_slices_IndexFunc_vint_Field_vint_Field),
  (n_vint_Find_1, a_vint_Find_1),
  (n_patch_runs, a_patch_runs),
  (n_ref16_isColour, a_ref16_isColour),
  (n_ansi_Parser_tell, a_ansi_Parser_tell),
  (n_ansi_Parser_inter, a_ansi_Parser_inter)]
def codes5 : List (Nat × AFn) :=
 [(n_ansi_Parser_end, a_ansi_Parser_end),
  (n_ansi_Parser_digit, a_ansi_Parser_digit),
  (n_ansi_Parser_next, a_ansi_Parser_next),
  (n_grid_Grid_rows, a_grid_Grid_rows),
  (n_style_Style_plain, a_style_Style_plain),
  (n_style_colour, a_style_colour),
  (n_slices_Index_int_int, a_slices_Index_int_int),
  (n_stringslite_HasPrefix, a_stringslite_HasPrefix),
  (n_osc_follows, a_osc_follows),
  (n_strings_IndexByte, a_strings_IndexByte),
  (n_base_Read, a_base_Read),
  (n_vint_tops, a_vint_tops),
  (n_math_bits_Mul32, a_math_bits_Mul32),
  (n_math_bits_Mul64, a_math_bits_Mul64),
  (n_style_flag, a_style_flag),
  (n_stringslite_IndexByte, a_stringslite_IndexByte),
  (n_base_Fault, a_base_Fault),
  (n_base_value, a_base_value),
  (n_base_ends, a_base_ends)]
def codesL : List (Nat × AFn) := codes0 ++ (codes1 ++ (codes2 ++ (codes3 ++ (codes4 ++ (codes5)))))
def codes (f : Nat) : Option AFn := lookN f codesL

end Go.AM
