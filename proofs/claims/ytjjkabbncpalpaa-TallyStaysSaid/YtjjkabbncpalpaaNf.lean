/- The functions that these statements reach, with their static parts reckoned; that they are the program's. -/
import Derived.Test.YtjjkabbncpalpaaNvCall
import Derived.Test.YtjjkabbncpalpaaNvW
import Derived.Test.YtjjkabbncpalpaaChecked
import Derived.KernelRfl
namespace Go.Proofs.Ytjjkabbncpalpaa.Nv
open Go

/-- comitia/comitialaw12.TallyPlays -/
def nf3 : NF := ⟨194, [.tmp 10],
 (.seq
 (.region [
  ⟨some 8, none, .box (.t 3)⟩,
  ⟨some 10, none, .mv (.c (.bool false))⟩] none)
 (.seq
  (.region [
   ⟨some 29, none, .call 9 []⟩,
   ⟨some 11, none, .mv (.t 29)⟩] none)
  (.seq
   (.seq
    (.region [
     ⟨some 30, none, .mv (.t 11)⟩,
     ⟨some 31, none, .un .not (.t 30)⟩] none)
    (.cond (.t 31)
     (.seq
      (.region [
       ⟨some 10, none, .mv (.c (.bool false))⟩] none)
      .ret)
     .skip))
   (.seq
    (.seq
     (.region [
      ⟨some 32, none, .mv (.t 2)⟩] none)
     (.cond (.t 32)
      (.seq
       (.region [
        ⟨some 33, none, .mv (.t 0)⟩,
        ⟨some 34, none, .i2i .u64 (.t 33)⟩,
        ⟨some 35, none, .bin .rem (.t 34) (.c (.int .u64 3))⟩,
        ⟨some 36, none, .i2i .i64 (.t 35)⟩,
        ⟨some 37, none, .bin .mul (.c (.int .i64 2)) (.t 36)⟩,
        ⟨some 38, none, .bin .add (.c (.int .i64 3)) (.t 37)⟩,
        ⟨some 0, none, .mv (.t 38)⟩] none)
       (.region [
        ⟨some 39, none, .mv (.t 1)⟩,
        ⟨some 40, none, .i2i .u64 (.t 39)⟩,
        ⟨some 41, none, .mv (.t 0)⟩,
        ⟨some 42, none, .i2i .u64 (.t 41)⟩,
        ⟨some 43, none, .bin .rem (.t 40) (.t 42)⟩,
        ⟨some 44, none, .i2i .i64 (.t 43)⟩,
        ⟨some 45, none, .bin .add (.c (.int .i64 1)) (.t 44)⟩,
        ⟨some 1, none, .mv (.t 45)⟩] none))
      .skip))
    (.seq
     (.region [
      ⟨some 46, none, .faddr 2 (.t 8)⟩,
      ⟨none, none, .store 1 (.t 46) (.c (.bool true))⟩] none)
     (.seq
      (.region [
       ⟨some 47, none, .load true 4 (.t 8)⟩,
       ⟨some 48, none, .call 10 [(.t 47)]⟩,
       ⟨some 12, none, .new [.int .u32 0, .slc 0 true []]⟩,
       ⟨none, none, .store 2 (.t 12) (.t 48)⟩] none)
      (.seq
       (.region [
        ⟨some 50, none, .mv (.t 0)⟩,
        ⟨some 51, none, .mv (.t 1)⟩,
        ⟨some 52, none, .call 11 [(.t 50), (.t 51)]⟩,
        ⟨some 49, none, .mv (.t 52)⟩,
        ⟨some 53, none, .ext (.t 49) 0⟩,
        ⟨some 54, none, .ext (.t 49) 1⟩,
        ⟨some 13, none, .mv (.t 53)⟩,
        ⟨some 14, none, .mv (.t 54)⟩] none)
       (.seq
        (.region [
         ⟨some 55, none, .mv (.t 0)⟩,
         ⟨some 56, none, .mv (.t 1)⟩,
         ⟨some 57, none, .call 12 [(.t 55), (.t 56)]⟩,
         ⟨some 15, none, .mv (.t 57)⟩] none)
        (.seq
         (.seq
          (.region [
           ⟨some 58, none, .mv (.t 0)⟩,
           ⟨some 59, none, .call 13 [(.t 58)]⟩,
           ⟨some 60, none, .mv (.t 0)⟩,
           ⟨some 61, none, .call 14 [(.t 60)]⟩,
           ⟨some 62, none, .bin .neq (.t 59) (.t 61)⟩] none)
          (.cond (.t 62)
           (.seq
            (.region [
             ⟨some 10, none, .mv (.c (.bool false))⟩] none)
            .ret)
           .skip))
         (.seq
          (.seq
           (.region [
            ⟨some 63, none, .mv (.t 15)⟩,
            ⟨some 64, none, .eq .ptr false (.t 63) (.c (.nilp))⟩] none)
           (.cond (.t 64)
            (.seq
             (.region [
              ⟨some 65, none, .mv (.t 11)⟩,
              ⟨some 66, none, .mv (.t 65)⟩,
              ⟨some 67, some (66, true), .mv (.t 13)⟩,
              ⟨some 68, some (66, true), .eq .ptr false (.t 67) (.c (.nilp))⟩,
              ⟨some 69, none, .pick (.t 66) (.t 68) (.c (.bool false))⟩,
              ⟨some 70, none, .mv (.t 69)⟩,
              ⟨some 71, some (70, true), .mv (.t 14)⟩,
              ⟨some 72, some (70, true), .bin .eql (.t 71) (.c (.int .i64 1))⟩,
              ⟨some 73, none, .pick (.t 70) (.t 72) (.c (.bool false))⟩,
              ⟨some 10, none, .mv (.t 73)⟩] none)
             .ret)
            .skip))
          (.seq
           (.seq
            (.region [
             ⟨some 74, none, .mv (.t 13)⟩,
             ⟨some 75, none, .eq .ptr false (.t 74) (.c (.nilp))⟩,
             ⟨some 76, none, .mv (.t 75)⟩,
             ⟨some 77, some (76, false), .mv (.t 14)⟩,
             ⟨some 78, some (76, false), .bin .neq (.t 77) (.c (.int .i64 0))⟩,
             ⟨some 79, none, .pick (.t 76) (.c (.bool true)) (.t 78)⟩] none)
            (.cond (.t 79)
             (.seq
              (.region [
               ⟨some 10, none, .mv (.c (.bool false))⟩] none)
              .ret)
             .skip))
           (.seq
            (.seq
             (.region [
              ⟨some 16, none, .mv (.c (.int .i64 0))⟩] none)
             (.block 0 (.loop (.seq
                (.seq
                 (.region [
                  ⟨some 80, none, .mv (.t 16)⟩,
                  ⟨some 81, none, .mv (.t 4)⟩,
                  ⟨some 82, none, .len .slc (.t 81)⟩,
                  ⟨some 83, none, .bin .lss (.t 80) (.t 82)⟩,
                  ⟨some 84, none, .mv (.t 83)⟩,
                  ⟨some 85, some (84, true), .mv (.t 16)⟩,
                  ⟨some 86, some (84, true), .bin .lss (.t 85) (.c (.int .i64 30))⟩,
                  ⟨some 87, none, .pick (.t 84) (.t 86) (.c (.bool false))⟩] none)
                 (.cond (.t 87)
                  .skip
                  (.exit 0)))
                (.seq
                 (.block 1 (.seq
                   (.region [
                    ⟨some 90, none, .mv (.t 4)⟩,
                    ⟨some 91, none, .mv (.t 16)⟩,
                    ⟨some 92, none, .iaddr (.slc 9) (.t 90) (.t 91)⟩,
                    ⟨some 93, none, .load true 9 (.t 92)⟩,
                    ⟨some 17, none, .new [.bool false, .int .i64 0, .int .u32 0, .slc 0 true [], .bool false, .slc 0 true [], .bool false, .bool false, .bool false]⟩,
                    ⟨none, none, .store 9 (.t 17) (.t 93)⟩] none)
                   (.seq
                    (.region [
                     ⟨some 94, none, .faddr 1 (.t 17)⟩,
                     ⟨some 95, none, .load false 1 (.t 94)⟩,
                     ⟨some 18, none, .mv (.t 95)⟩] none)
                    (.seq
                     (.seq
                      (.region [
                       ⟨some 96, none, .mv (.t 18)⟩,
                       ⟨some 97, none, .bin .rem (.t 96) (.c (.int .i64 5))⟩,
                       ⟨some 98, none, .bin .gtr (.t 97) (.c (.int .i64 0))⟩] none)
                      (.cond (.t 98)
                       (.region [
                        ⟨some 99, none, .mv (.t 18)⟩,
                        ⟨some 100, none, .bin .rem (.t 99) (.c (.int .i64 9))⟩,
                        ⟨some 18, none, .mv (.t 100)⟩] none)
                       .skip))
                     (.seq
                      (.seq
                       (.region [
                        ⟨some 101, none, .faddr 0 (.t 17)⟩,
                        ⟨some 102, none, .load false 1 (.t 101)⟩] none)
                       (.cond (.t 102)
                        (.seq
                         (.region [
                          ⟨some 103, none, .mv (.t 13)⟩,
                          ⟨some 104, none, .mv (.t 18)⟩,
                          ⟨some 105, none, .call 15 [(.t 103), (.t 104)]⟩,
                          ⟨some 106, none, .mv (.t 15)⟩,
                          ⟨some 107, none, .mv (.t 18)⟩,
                          ⟨some 108, none, .call 16 [(.t 106), (.t 107)]⟩,
                          ⟨some 109, none, .eq (.key ⟨false, [.bool]⟩) true (.t 105) (.t 108)⟩] none)
                         (.cond (.t 109)
                          (.seq
                           (.region [
                            ⟨some 10, none, .mv (.c (.bool false))⟩] none)
                           .ret)
                          .skip))
                        (.seq
                         (.region [
                          ⟨some 110, none, .mv (.t 13)⟩,
                          ⟨some 111, none, .mv (.t 18)⟩,
                          ⟨some 112, none, .faddr 2 (.t 17)⟩,
                          ⟨some 113, none, .load true 4 (.t 112)⟩,
                          ⟨some 114, none, .call 10 [(.t 113)]⟩,
                          ⟨some 115, none, .faddr 6 (.t 17)⟩,
                          ⟨some 116, none, .load false 1 (.t 115)⟩,
                          ⟨some 117, none, .call 17 [(.t 110), (.t 111), (.t 114), (.t 116)]⟩,
                          ⟨some 118, none, .mv (.t 15)⟩,
                          ⟨some 119, none, .mv (.t 18)⟩,
                          ⟨some 120, none, .faddr 2 (.t 17)⟩,
                          ⟨some 121, none, .load true 4 (.t 120)⟩,
                          ⟨some 122, none, .call 10 [(.t 121)]⟩,
                          ⟨some 123, none, .call 19 [(.t 122)]⟩,
                          ⟨some 124, none, .faddr 6 (.t 17)⟩,
                          ⟨some 125, none, .load false 1 (.t 124)⟩,
                          ⟨some 126, none, .call 18 [(.t 118), (.t 119), (.t 123), (.t 125)]⟩,
                          ⟨some 127, none, .eq (.key ⟨false, [.bool]⟩) true (.t 117) (.t 126)⟩] (some (16, [0, 0, 0, 4, 12, 0, 32, 127, 0, 0, 0, 1024, 3327, 7423, 0, 16384, 65535, 131071], 167805440)))
                         (.cond (.t 127)
                          (.seq
                           (.region [
                            ⟨some 10, none, .mv (.c (.bool false))⟩] none)
                           .ret)
                          .skip))))
                      (.seq
                       (.region [
                        ⟨some 129, none, .mv (.t 13)⟩,
                        ⟨some 130, none, .faddr 7 (.t 17)⟩,
                        ⟨some 131, none, .load false 1 (.t 130)⟩,
                        ⟨some 132, none, .faddr 8 (.t 17)⟩,
                        ⟨some 133, none, .load false 1 (.t 132)⟩,
                        ⟨some 134, none, .load true 2 (.t 12)⟩,
                        ⟨some 135, none, .call 20 [(.t 129), (.t 131), (.t 133), (.t 134)]⟩,
                        ⟨some 128, none, .mv (.t 135)⟩,
                        ⟨some 136, none, .ext (.t 128) 0⟩,
                        ⟨some 137, none, .ext (.t 128) 1⟩,
                        ⟨some 20, none, .new [.int .u32 0, .slc 0 true []]⟩,
                        ⟨some 19, none, .mv (.t 136)⟩,
                        ⟨none, none, .store 2 (.t 20) (.t 137)⟩] none)
                       (.seq
                        (.region [
                         ⟨some 139, none, .mv (.t 15)⟩,
                         ⟨some 140, none, .faddr 7 (.t 17)⟩,
                         ⟨some 141, none, .load false 1 (.t 140)⟩,
                         ⟨some 142, none, .faddr 8 (.t 17)⟩,
                         ⟨some 143, none, .load false 1 (.t 142)⟩,
                         ⟨some 144, none, .load true 2 (.t 12)⟩,
                         ⟨some 145, none, .call 19 [(.t 144)]⟩,
                         ⟨some 146, none, .call 21 [(.t 139), (.t 141), (.t 143), (.t 145)]⟩,
                         ⟨some 138, none, .mv (.t 146)⟩,
                         ⟨some 147, none, .ext (.t 138) 0⟩,
                         ⟨some 148, none, .ext (.t 138) 1⟩,
                         ⟨some 22, none, .new [.int .u32 0, .slc 0 true []]⟩,
                         ⟨some 21, none, .mv (.t 147)⟩,
                         ⟨none, none, .store 2 (.t 22) (.t 148)⟩] (some (13, [0, 0, 2, 0, 8, 0, 32, 127, 255, 511, 511, 0, 3071, 8191], 20480)))
                        (.seq
                         (.region [
                          ⟨some 150, none, .mv (.t 13)⟩,
                          ⟨some 151, none, .call 22 [(.t 150)]⟩,
                          ⟨some 149, none, .mv (.t 151)⟩,
                          ⟨some 152, none, .ext (.t 149) 0⟩,
                          ⟨some 153, none, .ext (.t 149) 1⟩,
                          ⟨some 154, none, .ext (.t 149) 2⟩,
                          ⟨some 23, none, .mv (.t 152)⟩,
                          ⟨some 24, none, .mv (.t 153)⟩,
                          ⟨some 25, none, .mv (.t 154)⟩] none)
                         (.seq
                          (.region [
                           ⟨some 156, none, .mv (.t 15)⟩,
                           ⟨some 157, none, .call 23 [(.t 156)]⟩,
                           ⟨some 155, none, .mv (.t 157)⟩,
                           ⟨some 158, none, .ext (.t 155) 0⟩,
                           ⟨some 159, none, .ext (.t 155) 1⟩,
                           ⟨some 160, none, .ext (.t 155) 2⟩,
                           ⟨some 26, none, .mv (.t 158)⟩,
                           ⟨some 27, none, .mv (.t 159)⟩,
                           ⟨some 28, none, .mv (.t 160)⟩] none)
                          (.seq
                           (.region [
                            ⟨some 161, none, .mv (.t 19)⟩,
                            ⟨some 162, none, .mv (.t 21)⟩,
                            ⟨some 163, none, .bin .neq (.t 161) (.t 162)⟩,
                            ⟨some 164, none, .mv (.t 163)⟩,
                            ⟨some 165, some (164, false), .load true 2 (.t 20)⟩,
                            ⟨some 166, some (164, false), .call 19 [(.t 165)]⟩,
                            ⟨some 167, some (164, false), .load true 2 (.t 22)⟩,
                            ⟨some 168, some (164, false), .call 24 [(.t 166), (.t 167)]⟩,
                            ⟨some 169, some (164, false), .un .not (.t 168)⟩,
                            ⟨some 170, none, .pick (.t 164) (.c (.bool true)) (.t 169)⟩,
                            ⟨some 171, none, .mv (.t 170)⟩,
                            ⟨some 172, some (171, false), .mv (.t 23)⟩,
                            ⟨some 173, some (171, false), .mv (.t 26)⟩,
                            ⟨some 174, some (171, false), .bin .neq (.t 172) (.t 173)⟩,
                            ⟨some 175, none, .pick (.t 171) (.c (.bool true)) (.t 174)⟩,
                            ⟨some 176, none, .mv (.t 175)⟩,
                            ⟨some 177, some (176, false), .mv (.t 24)⟩,
                            ⟨some 178, some (176, false), .mv (.t 27)⟩,
                            ⟨some 179, some (176, false), .bin .neq (.t 177) (.t 178)⟩,
                            ⟨some 180, none, .pick (.t 176) (.c (.bool true)) (.t 179)⟩,
                            ⟨some 181, none, .mv (.t 180)⟩,
                            ⟨some 182, some (181, false), .mv (.t 25)⟩,
                            ⟨some 183, some (181, false), .mv (.t 28)⟩,
                            ⟨some 184, some (181, false), .bin .neq (.t 182) (.t 183)⟩,
                            ⟨some 185, none, .pick (.t 181) (.c (.bool true)) (.t 184)⟩,
                            ⟨some 186, none, .mv (.t 185)⟩,
                            ⟨some 187, some (186, false), .mv (.t 13)⟩,
                            ⟨some 188, some (186, false), .call 25 [(.t 187)]⟩,
                            ⟨some 189, some (186, false), .mv (.t 15)⟩,
                            ⟨some 190, some (186, false), .call 26 [(.t 189)]⟩,
                            ⟨some 191, some (186, false), .eq (.key ⟨false, [.bool]⟩) true (.t 188) (.t 190)⟩,
                            ⟨some 192, none, .pick (.t 186) (.c (.bool true)) (.t 191)⟩] (some (29, [0, 0, 3, 7, 15, 31, 15, 127, 255, 511, 1023, 2047, 2047, 8191, 16383, 32767, 65535, 65535, 262143, 524287, 1048575, 2097151, 2097151, 8388607, 16777215, 33554431, 67108863, 134217727, 67108863, 536870911, 1073741823, 2147483647], 36028797018998784)))
                           (.cond (.t 192)
                            (.seq
                             (.region [
                              ⟨some 10, none, .mv (.c (.bool false))⟩] none)
                             .ret)
                            .skip)))))))))))
                 (.region [
                  ⟨some 88, none, .mv (.t 16)⟩,
                  ⟨some 89, none, .bin .add (.t 88) (.c (.int .i64 1))⟩,
                  ⟨some 16, none, .mv (.t 89)⟩] none))))))
            (.seq
             (.region [
              ⟨some 193, none, .mv (.t 11)⟩,
              ⟨some 10, none, .mv (.t 193)⟩] none)
             .ret)))))))))))))⟩
theorem nf3_ok : compF Try.prog 3 = some nf3 := by kernel_rfl

/-- comitia/comitialaw12.TallyStays -/
def nf4 : NF := ⟨166, [.tmp 6],
 (.seq
 (.region [
  ⟨some 4, none, .box (.t 1)⟩,
  ⟨some 6, none, .mv (.c (.bool false))⟩] none)
 (.seq
  (.region [
   ⟨some 23, none, .call 9 []⟩,
   ⟨some 7, none, .mv (.t 23)⟩] none)
  (.seq
   (.seq
    (.region [
     ⟨some 24, none, .mv (.t 7)⟩,
     ⟨some 25, none, .un .not (.t 24)⟩] none)
    (.cond (.t 25)
     (.seq
      (.region [
       ⟨some 6, none, .mv (.c (.bool false))⟩] none)
      .ret)
     .skip))
   (.seq
    (.region [
     ⟨some 26, none, .mv (.t 0)⟩,
     ⟨some 27, none, .bin .rem (.t 26) (.c (.int .u8 3))⟩,
     ⟨some 28, none, .i2i .i64 (.t 27)⟩,
     ⟨some 29, none, .bin .mul (.c (.int .i64 2)) (.t 28)⟩,
     ⟨some 30, none, .bin .add (.c (.int .i64 3)) (.t 29)⟩,
     ⟨some 8, none, .mv (.t 30)⟩] none)
    (.seq
     (.region [
      ⟨some 32, none, .mv (.t 8)⟩,
      ⟨some 33, none, .call 11 [(.t 32), (.c (.int .i64 1))]⟩,
      ⟨some 31, none, .mv (.t 33)⟩,
      ⟨some 34, none, .ext (.t 31) 0⟩,
      ⟨some 35, none, .ext (.t 31) 1⟩,
      ⟨some 9, none, .mv (.t 34)⟩,
      ⟨some 10, none, .mv (.t 35)⟩] none)
     (.seq
      (.seq
       (.region [
        ⟨some 36, none, .mv (.t 9)⟩,
        ⟨some 37, none, .eq .ptr false (.t 36) (.c (.nilp))⟩,
        ⟨some 38, none, .mv (.t 37)⟩,
        ⟨some 39, some (38, false), .mv (.t 10)⟩,
        ⟨some 40, some (38, false), .bin .neq (.t 39) (.c (.int .i64 0))⟩,
        ⟨some 41, none, .pick (.t 38) (.c (.bool true)) (.t 40)⟩] none)
       (.cond (.t 41)
        (.seq
         (.region [
          ⟨some 6, none, .mv (.c (.bool false))⟩] none)
         .ret)
        .skip))
      (.seq
       (.region [
        ⟨some 42, none, .faddr 2 (.t 4)⟩,
        ⟨none, none, .store 1 (.t 42) (.c (.bool true))⟩] none)
       (.seq
        (.region [
         ⟨some 43, none, .load true 4 (.t 4)⟩,
         ⟨some 44, none, .call 10 [(.t 43)]⟩,
         ⟨some 11, none, .new [.int .u32 0, .slc 0 true []]⟩,
         ⟨none, none, .store 2 (.t 11) (.t 44)⟩] none)
        (.seq
         (.region [
          ⟨some 12, none, .mv (.c (.bool false))⟩] none)
         (.seq
          (.region [
           ⟨some 13, none, .mv (.c (.bool false))⟩] none)
          (.seq
           (.region [
            ⟨some 14, none, .mv (.c (.slc 0 true []))⟩] none)
           (.seq
            (.seq
             (.region [
              ⟨some 15, none, .mv (.c (.int .i64 0))⟩] none)
             (.block 0 (.loop (.seq
                (.seq
                 (.region [
                  ⟨some 45, none, .mv (.t 15)⟩,
                  ⟨some 46, none, .mv (.t 2)⟩,
                  ⟨some 47, none, .len .slc (.t 46)⟩,
                  ⟨some 48, none, .bin .lss (.t 45) (.t 47)⟩,
                  ⟨some 49, none, .mv (.t 48)⟩,
                  ⟨some 50, some (49, true), .mv (.t 15)⟩,
                  ⟨some 51, some (49, true), .mv (.t 8)⟩,
                  ⟨some 52, some (49, true), .bin .sub (.t 51) (.c (.int .i64 1))⟩,
                  ⟨some 53, some (49, true), .bin .lss (.t 50) (.t 52)⟩,
                  ⟨some 54, none, .pick (.t 49) (.t 53) (.c (.bool false))⟩] none)
                 (.cond (.t 54)
                  .skip
                  (.exit 0)))
                (.seq
                 (.block 1 (.seq
                   (.region [
                    ⟨some 57, none, .mv (.t 2)⟩,
                    ⟨some 58, none, .mv (.t 15)⟩,
                    ⟨some 59, none, .iaddr (.slc 9) (.t 57) (.t 58)⟩,
                    ⟨some 60, none, .load true 9 (.t 59)⟩,
                    ⟨some 16, none, .new [.bool false, .int .i64 0, .int .u32 0, .slc 0 true [], .bool false, .slc 0 true [], .bool false, .bool false, .bool false]⟩,
                    ⟨none, none, .store 9 (.t 16) (.t 60)⟩] none)
                   (.seq
                    (.region [
                     ⟨some 61, none, .faddr 2 (.t 16)⟩,
                     ⟨some 62, none, .faddr 2 (.t 61)⟩,
                     ⟨none, none, .store 1 (.t 62) (.c (.bool true))⟩] none)
                    (.seq
                     (.region [
                      ⟨some 63, none, .faddr 2 (.t 16)⟩,
                      ⟨some 64, none, .load true 4 (.t 63)⟩,
                      ⟨some 65, none, .call 10 [(.t 64)]⟩,
                      ⟨some 17, none, .new [.int .u32 0, .slc 0 true []]⟩,
                      ⟨none, none, .store 2 (.t 17) (.t 65)⟩] none)
                     (.seq
                      (.seq
                       (.region [
                        ⟨some 66, none, .faddr 6 (.t 16)⟩,
                        ⟨some 67, none, .load false 1 (.t 66)⟩] none)
                       (.cond (.t 67)
                        (.region [
                         ⟨some 68, none, .load true 2 (.t 11)⟩,
                         ⟨none, none, .store 2 (.t 17) (.t 68)⟩] none)
                        .skip))
                      (.seq
                       (.seq
                        (.region [
                         ⟨some 69, none, .mv (.t 9)⟩,
                         ⟨some 70, none, .mv (.t 15)⟩,
                         ⟨some 71, none, .bin .add (.c (.int .i64 2)) (.t 70)⟩,
                         ⟨some 72, none, .load true 2 (.t 17)⟩,
                         ⟨some 73, none, .faddr 6 (.t 16)⟩,
                         ⟨some 74, none, .load false 1 (.t 73)⟩,
                         ⟨some 75, none, .call 17 [(.t 69), (.t 71), (.t 72), (.t 74)]⟩,
                         ⟨some 76, none, .un .not (.t 75)⟩,
                         ⟨some 77, none, .mv (.t 76)⟩,
                         ⟨some 78, some (77, false), .mv (.t 9)⟩,
                         ⟨some 79, some (77, false), .mv (.t 15)⟩,
                         ⟨some 80, some (77, false), .bin .add (.c (.int .i64 2)) (.t 79)⟩,
                         ⟨some 81, some (77, false), .load true 2 (.t 17)⟩,
                         ⟨some 82, some (77, false), .faddr 6 (.t 16)⟩,
                         ⟨some 83, some (77, false), .load false 1 (.t 82)⟩,
                         ⟨some 84, some (77, false), .call 17 [(.t 78), (.t 80), (.t 81), (.t 83)]⟩,
                         ⟨some 85, none, .pick (.t 77) (.c (.bool true)) (.t 84)⟩] none)
                        (.cond (.t 85)
                         (.seq
                          (.region [
                           ⟨some 6, none, .mv (.c (.bool false))⟩] none)
                          .ret)
                         .skip))
                       (.seq
                        (.region [
                         ⟨some 86, none, .mv (.t 14)⟩,
                         ⟨some 87, none, .load true 2 (.t 17)⟩,
                         ⟨some 88, none, .bslc 2 1 [.int .u32 0, .slc 0 true []] [(0, 2, (.t 87))]⟩,
                         ⟨some 89, none, .app 2 32 (.t 86) (.t 88)⟩,
                         ⟨some 14, none, .mv (.t 89)⟩] none)
                        (.seq
                         (.seq
                          (.region [
                           ⟨some 90, none, .faddr 0 (.t 16)⟩,
                           ⟨some 91, none, .load false 1 (.t 90)⟩,
                           ⟨some 92, none, .mv (.t 91)⟩,
                           ⟨some 93, some (92, true), .mv (.t 9)⟩,
                           ⟨some 94, some (92, true), .mv (.t 15)⟩,
                           ⟨some 95, some (92, true), .bin .add (.c (.int .i64 2)) (.t 94)⟩,
                           ⟨some 96, some (92, true), .call 15 [(.t 93), (.t 95)]⟩,
                           ⟨some 97, some (92, true), .un .not (.t 96)⟩,
                           ⟨some 98, none, .pick (.t 92) (.t 97) (.c (.bool false))⟩] none)
                          (.cond (.t 98)
                           (.seq
                            (.region [
                             ⟨some 6, none, .mv (.c (.bool false))⟩] none)
                            .ret)
                           .skip))
                         (.seq
                          (.region [
                           ⟨some 100, none, .mv (.t 9)⟩,
                           ⟨some 101, none, .load true 2 (.t 11)⟩,
                           ⟨some 102, none, .call 20 [(.t 100), (.c (.bool true)), (.c (.bool true)), (.t 101)]⟩,
                           ⟨some 99, none, .mv (.t 102)⟩,
                           ⟨some 103, none, .ext (.t 99) 0⟩,
                           ⟨some 104, none, .ext (.t 99) 1⟩,
                           ⟨some 19, none, .new [.int .u32 0, .slc 0 true []]⟩,
                           ⟨some 18, none, .mv (.t 103)⟩,
                           ⟨none, none, .store 2 (.t 19) (.t 104)⟩] none)
                          (.seq
                           (.region [
                            ⟨some 106, none, .mv (.t 9)⟩,
                            ⟨some 107, none, .load true 2 (.t 11)⟩,
                            ⟨some 108, none, .call 20 [(.t 106), (.c (.bool false)), (.c (.bool true)), (.t 107)]⟩,
                            ⟨some 105, none, .mv (.t 108)⟩,
                            ⟨some 109, none, .ext (.t 105) 0⟩,
                            ⟨some 110, none, .ext (.t 105) 1⟩,
                            ⟨some 21, none, .new [.int .u32 0, .slc 0 true []]⟩,
                            ⟨some 20, none, .mv (.t 109)⟩,
                            ⟨none, none, .store 2 (.t 21) (.t 110)⟩] none)
                           (.seq
                            (.seq
                             (.region [
                              ⟨some 111, none, .mv (.t 12)⟩,
                              ⟨some 112, none, .mv (.t 111)⟩,
                              ⟨some 113, some (112, true), .mv (.t 18)⟩,
                              ⟨some 114, some (112, true), .bin .neq (.t 113) (.c (.int .i64 1))⟩,
                              ⟨some 115, none, .pick (.t 112) (.t 114) (.c (.bool false))⟩,
                              ⟨some 116, none, .mv (.t 115)⟩,
                              ⟨some 117, some (116, false), .mv (.t 13)⟩,
                              ⟨some 118, some (116, false), .mv (.t 117)⟩,
                              ⟨some 119, some (118, true), .mv (.t 9)⟩,
                              ⟨some 120, some (118, true), .call 25 [(.t 119)]⟩,
                              ⟨some 121, some (118, true), .un .not (.t 120)⟩,
                              ⟨some 122, some (116, false), .pick (.t 118) (.t 121) (.c (.bool false))⟩,
                              ⟨some 123, none, .pick (.t 116) (.c (.bool true)) (.t 122)⟩,
                              ⟨some 124, none, .mv (.t 123)⟩,
                              ⟨some 125, some (124, false), .mv (.t 18)⟩,
                              ⟨some 126, some (124, false), .bin .eql (.t 125) (.c (.int .i64 1))⟩,
                              ⟨some 127, some (124, false), .mv (.t 126)⟩,
                              ⟨some 128, some (127, true), .load true 2 (.t 19)⟩,
                              ⟨some 129, some (127, true), .load true 2 (.t 11)⟩,
                              ⟨some 130, some (127, true), .call 27 [(.t 128), (.t 129)]⟩,
                              ⟨some 131, some (127, true), .un .not (.t 130)⟩,
                              ⟨some 132, some (124, false), .pick (.t 127) (.t 131) (.c (.bool false))⟩,
                              ⟨some 133, none, .pick (.t 124) (.c (.bool true)) (.t 132)⟩] none)
                             (.cond (.t 133)
                              (.seq
                               (.region [
                                ⟨some 6, none, .mv (.c (.bool false))⟩] none)
                               .ret)
                              .skip))
                            (.seq
                             (.region [
                              ⟨some 134, none, .mv (.t 18)⟩,
                              ⟨some 135, none, .bin .eql (.t 134) (.c (.int .i64 1))⟩,
                              ⟨some 12, none, .mv (.t 135)⟩] none)
                             (.seq
                              (.region [
                               ⟨some 136, none, .mv (.t 9)⟩,
                               ⟨some 137, none, .call 25 [(.t 136)]⟩,
                               ⟨some 13, none, .mv (.t 137)⟩] none)
                              (.seq
                               (.seq
                                (.region [
                                 ⟨some 138, none, .mv (.t 20)⟩,
                                 ⟨some 139, none, .bin .eql (.t 138) (.c (.int .i64 2))⟩,
                                 ⟨some 140, none, .mv (.t 14)⟩,
                                 ⟨some 141, none, .len .slc (.t 140)⟩,
                                 ⟨some 142, none, .mv (.t 8)⟩,
                                 ⟨some 143, none, .call 13 [(.t 142)]⟩,
                                 ⟨some 144, none, .bin .geq (.t 141) (.t 143)⟩,
                                 ⟨some 145, none, .eq (.key ⟨false, [.bool]⟩) true (.t 139) (.t 144)⟩] none)
                                (.cond (.t 145)
                                 (.seq
                                  (.region [
                                   ⟨some 6, none, .mv (.c (.bool false))⟩] none)
                                  .ret)
                                 .skip))
                               (.seq
                                (.region [
                                 ⟨some 22, none, .mv (.c (.int .i64 0))⟩] none)
                                (.block 2 (.loop (.seq
                                   (.seq
                                    (.region [
                                     ⟨some 146, none, .mv (.t 22)⟩,
                                     ⟨some 147, none, .mv (.t 14)⟩,
                                     ⟨some 148, none, .len .slc (.t 147)⟩,
                                     ⟨some 149, none, .bin .lss (.t 146) (.t 148)⟩,
                                     ⟨some 150, none, .mv (.t 149)⟩,
                                     ⟨some 151, some (150, true), .mv (.t 20)⟩,
                                     ⟨some 152, some (150, true), .bin .eql (.t 151) (.c (.int .i64 2))⟩,
                                     ⟨some 153, none, .pick (.t 150) (.t 152) (.c (.bool false))⟩] none)
                                    (.cond (.t 153)
                                     .skip
                                     (.exit 2)))
                                   (.seq
                                    (.block 3 (.seq
                                      (.region [
                                       ⟨some 156, none, .load true 2 (.t 21)⟩,
                                       ⟨some 157, none, .mv (.t 14)⟩,
                                       ⟨some 158, none, .mv (.t 22)⟩,
                                       ⟨some 159, none, .iaddr (.slc 2) (.t 157) (.t 158)⟩,
                                       ⟨some 160, none, .load true 2 (.t 159)⟩,
                                       ⟨some 161, none, .call 28 [(.t 156), (.t 160)]⟩,
                                       ⟨some 162, none, .load true 2 (.t 21)⟩,
                                       ⟨some 163, none, .call 27 [(.t 161), (.t 162)]⟩,
                                       ⟨some 164, none, .un .not (.t 163)⟩] (some (7, [0, 0, 0, 6, 14, 31, 0, 127, 255], 2048)))
                                      (.cond (.t 164)
                                       (.seq
                                        (.region [
                                         ⟨some 6, none, .mv (.c (.bool false))⟩] none)
                                        .ret)
                                       .skip)))
                                    (.region [
                                     ⟨some 154, none, .mv (.t 22)⟩,
                                     ⟨some 155, none, .bin .add (.t 154) (.c (.int .i64 1))⟩,
                                     ⟨some 22, none, .mv (.t 155)⟩] none))))))))))))))))))))
                 (.region [
                  ⟨some 55, none, .mv (.t 15)⟩,
                  ⟨some 56, none, .bin .add (.t 55) (.c (.int .i64 1))⟩,
                  ⟨some 15, none, .mv (.t 56)⟩] none))))))
            (.seq
             (.region [
              ⟨some 165, none, .mv (.t 7)⟩,
              ⟨some 6, none, .mv (.t 165)⟩] none)
             .ret)))))))))))))⟩
theorem nf4_ok : compF Try.prog 4 = some nf4 := by kernel_rfl

/-- comitia/comitialaw12.TallyQuorums -/
def nf5 : NF := ⟨137, [.tmp 8],
 (.seq
 (.region [
  ⟨some 8, none, .mv (.c (.bool false))⟩] none)
 (.seq
  (.region [
   ⟨some 24, none, .call 9 []⟩,
   ⟨some 9, none, .mv (.t 24)⟩] none)
  (.seq
   (.seq
    (.region [
     ⟨some 25, none, .mv (.t 9)⟩,
     ⟨some 26, none, .un .not (.t 25)⟩] none)
    (.cond (.t 26)
     (.seq
      (.region [
       ⟨some 8, none, .mv (.c (.bool false))⟩] none)
      .ret)
     .skip))
   (.seq
    (.region [
     ⟨some 27, none, .mv (.t 0)⟩,
     ⟨some 28, none, .bin .rem (.t 27) (.c (.int .u8 3))⟩,
     ⟨some 29, none, .i2i .i64 (.t 28)⟩,
     ⟨some 30, none, .bin .mul (.c (.int .i64 2)) (.t 29)⟩,
     ⟨some 31, none, .bin .add (.c (.int .i64 3)) (.t 30)⟩,
     ⟨some 10, none, .mv (.t 31)⟩] none)
    (.seq
     (.region [
      ⟨some 33, none, .mv (.t 10)⟩,
      ⟨some 34, none, .call 11 [(.t 33), (.c (.int .i64 1))]⟩,
      ⟨some 32, none, .mv (.t 34)⟩,
      ⟨some 35, none, .ext (.t 32) 0⟩,
      ⟨some 36, none, .ext (.t 32) 1⟩,
      ⟨some 11, none, .mv (.t 35)⟩,
      ⟨some 12, none, .mv (.t 36)⟩] none)
     (.seq
      (.seq
       (.region [
        ⟨some 37, none, .mv (.t 11)⟩,
        ⟨some 38, none, .eq .ptr false (.t 37) (.c (.nilp))⟩,
        ⟨some 39, none, .mv (.t 38)⟩,
        ⟨some 40, some (39, false), .mv (.t 12)⟩,
        ⟨some 41, some (39, false), .bin .neq (.t 40) (.c (.int .i64 0))⟩,
        ⟨some 42, none, .pick (.t 39) (.c (.bool true)) (.t 41)⟩] none)
       (.cond (.t 42)
        (.seq
         (.region [
          ⟨some 8, none, .mv (.c (.bool false))⟩] none)
         .ret)
        .skip))
      (.seq
       (.region [
        ⟨some 43, none, .mv (.t 10)⟩,
        ⟨some 44, none, .call 13 [(.t 43)]⟩,
        ⟨some 13, none, .mv (.t 44)⟩] none)
       (.seq
        (.region [
         ⟨some 14, none, .mv (.c (.int .i64 0))⟩] none)
        (.seq
         (.region [
          ⟨some 15, none, .mv (.c (.int .i64 1))⟩] none)
         (.seq
          (.region [
           ⟨some 16, none, .mv (.c (.int .i64 0))⟩] none)
          (.seq
           (.region [
            ⟨some 17, none, .mv (.c (.int .i64 1))⟩] none)
           (.seq
            (.region [
             ⟨some 45, none, .build [.int .u32 0, .slc 0 true []] [(0, 1, (.c (.int .u32 1)))]⟩,
             ⟨some 18, none, .new [.int .u32 0, .slc 0 true []]⟩,
             ⟨none, none, .store 2 (.t 18) (.t 45)⟩] none)
            (.seq
             (.region [
              ⟨some 46, none, .build [.int .i64 0, .int .i64 0] [(0, 1, (.c (.int .i64 1))), (1, 1, (.c (.int .i64 1)))]⟩,
              ⟨some 47, none, .bslc 2 1 [.int .i64 0, .int .i64 0] [(0, 2, (.t 46))]⟩,
              ⟨some 48, none, .build [.int .u32 0, .slc 0 true []] [(0, 1, (.c (.int .u32 2))), (1, 1, (.t 47))]⟩,
              ⟨some 19, none, .new [.int .u32 0, .slc 0 true []]⟩,
              ⟨none, none, .store 2 (.t 19) (.t 48)⟩] none)
             (.seq
              (.seq
               (.region [
                ⟨some 20, none, .mv (.c (.int .i64 2))⟩] none)
               (.block 0 (.loop (.seq
                  (.seq
                   (.region [
                    ⟨some 49, none, .mv (.t 20)⟩,
                    ⟨some 50, none, .mv (.t 10)⟩,
                    ⟨some 51, none, .bin .leq (.t 49) (.t 50)⟩] none)
                   (.cond (.t 51)
                    .skip
                    (.exit 0)))
                  (.seq
                   (.block 1 (.seq
                     (.region [
                      ⟨some 54, none, .mv (.t 1)⟩,
                      ⟨some 55, none, .mv (.t 20)⟩,
                      ⟨some 56, none, .bin .shr (.t 54) (.t 55)⟩,
                      ⟨some 57, none, .bin .rem (.t 56) (.c (.int .u8 2))⟩,
                      ⟨some 58, none, .bin .eql (.t 57) (.c (.int .u8 1))⟩,
                      ⟨some 21, none, .mv (.t 58)⟩] none)
                     (.seq
                      (.seq
                       (.region [
                        ⟨some 59, none, .mv (.t 21)⟩] none)
                       (.cond (.t 59)
                        (.seq
                         (.region [
                          ⟨some 60, none, .mv (.t 11)⟩,
                          ⟨some 61, none, .mv (.t 20)⟩,
                          ⟨some 62, none, .load true 2 (.t 18)⟩,
                          ⟨some 63, none, .call 17 [(.t 60), (.t 61), (.t 62), (.c (.bool true))]⟩] none)
                         (.region [
                          ⟨some 64, none, .mv (.t 14)⟩,
                          ⟨some 65, none, .bin .add (.t 64) (.c (.int .i64 1))⟩,
                          ⟨some 14, none, .mv (.t 65)⟩] none))
                        (.region [
                         ⟨some 66, none, .mv (.t 11)⟩,
                         ⟨some 67, none, .mv (.t 20)⟩,
                         ⟨some 68, none, .load true 2 (.t 19)⟩,
                         ⟨some 69, none, .call 17 [(.t 66), (.t 67), (.t 68), (.c (.bool false))]⟩] none)))
                      (.seq
                       (.seq
                        (.region [
                         ⟨some 70, none, .mv (.t 2)⟩,
                         ⟨some 71, none, .mv (.t 20)⟩,
                         ⟨some 72, none, .bin .shr (.t 70) (.t 71)⟩,
                         ⟨some 73, none, .bin .rem (.t 72) (.c (.int .u8 2))⟩,
                         ⟨some 74, none, .bin .eql (.t 73) (.c (.int .u8 1))⟩] none)
                        (.cond (.t 74)
                         (.seq
                          (.region [
                           ⟨some 75, none, .mv (.t 11)⟩,
                           ⟨some 76, none, .mv (.t 20)⟩,
                           ⟨some 77, none, .call 15 [(.t 75), (.t 76)]⟩] none)
                          (.region [
                           ⟨some 78, none, .mv (.t 15)⟩,
                           ⟨some 79, none, .bin .add (.t 78) (.c (.int .i64 1))⟩,
                           ⟨some 15, none, .mv (.t 79)⟩] none))
                         .skip))
                       (.seq
                        (.region [
                         ⟨some 80, none, .mv (.t 3)⟩,
                         ⟨some 81, none, .mv (.t 20)⟩,
                         ⟨some 82, none, .bin .shr (.t 80) (.t 81)⟩,
                         ⟨some 83, none, .bin .rem (.t 82) (.c (.int .u8 2))⟩,
                         ⟨some 84, none, .bin .eql (.t 83) (.c (.int .u8 1))⟩] none)
                        (.cond (.t 84)
                         (.seq
                          (.region [
                           ⟨some 85, none, .mv (.t 17)⟩,
                           ⟨some 86, none, .bin .add (.t 85) (.c (.int .i64 1))⟩,
                           ⟨some 17, none, .mv (.t 86)⟩] none)
                          (.seq
                           (.region [
                            ⟨some 87, none, .mv (.t 21)⟩] none)
                           (.cond (.t 87)
                            (.region [
                             ⟨some 88, none, .mv (.t 16)⟩,
                             ⟨some 89, none, .bin .add (.t 88) (.c (.int .i64 1))⟩,
                             ⟨some 16, none, .mv (.t 89)⟩] none)
                            .skip)))
                         .skip))))))
                   (.region [
                    ⟨some 52, none, .mv (.t 20)⟩,
                    ⟨some 53, none, .bin .add (.t 52) (.c (.int .i64 1))⟩,
                    ⟨some 20, none, .mv (.t 53)⟩] none))))))
              (.seq
               (.region [
                ⟨some 91, none, .mv (.t 11)⟩,
                ⟨some 92, none, .load true 2 (.t 18)⟩,
                ⟨some 93, none, .call 20 [(.t 91), (.c (.bool true)), (.c (.bool false)), (.t 92)]⟩,
                ⟨some 90, none, .mv (.t 93)⟩,
                ⟨some 94, none, .ext (.t 90) 0⟩,
                ⟨some 95, none, .ext (.t 90) 1⟩,
                ⟨some 23, none, .new [.int .u32 0, .slc 0 true []]⟩,
                ⟨some 22, none, .mv (.t 94)⟩,
                ⟨none, none, .store 2 (.t 23) (.t 95)⟩] none)
               (.seq
                (.seq
                 (.region [
                  ⟨some 96, none, .mv (.t 22)⟩,
                  ⟨some 97, none, .bin .eql (.t 96) (.c (.int .i64 1))⟩,
                  ⟨some 98, none, .mv (.t 14)⟩,
                  ⟨some 99, none, .mv (.t 13)⟩,
                  ⟨some 100, none, .bin .mul (.c (.int .i64 2)) (.t 99)⟩,
                  ⟨some 101, none, .bin .sub (.t 100) (.c (.int .i64 1))⟩,
                  ⟨some 102, none, .bin .geq (.t 98) (.t 101)⟩,
                  ⟨some 103, none, .eq (.key ⟨false, [.bool]⟩) true (.t 97) (.t 102)⟩,
                  ⟨some 104, none, .mv (.t 103)⟩,
                  ⟨some 105, some (104, false), .mv (.t 11)⟩,
                  ⟨some 106, some (104, false), .call 25 [(.t 105)]⟩,
                  ⟨some 107, some (104, false), .mv (.t 15)⟩,
                  ⟨some 108, some (104, false), .bin .mul (.c (.int .i64 2)) (.t 107)⟩,
                  ⟨some 109, some (104, false), .mv (.t 10)⟩,
                  ⟨some 110, some (104, false), .bin .gtr (.t 108) (.t 109)⟩,
                  ⟨some 111, some (104, false), .eq (.key ⟨false, [.bool]⟩) true (.t 106) (.t 110)⟩,
                  ⟨some 112, none, .pick (.t 104) (.c (.bool true)) (.t 111)⟩] none)
                 (.cond (.t 112)
                  (.seq
                   (.region [
                    ⟨some 8, none, .mv (.c (.bool false))⟩] none)
                   .ret)
                  .skip))
                (.seq
                 (.region [
                  ⟨some 113, none, .mv (.t 9)⟩,
                  ⟨some 114, none, .mv (.t 113)⟩,
                  ⟨some 115, some (114, true), .mv (.t 13)⟩,
                  ⟨some 116, some (114, true), .bin .mul (.c (.int .i64 2)) (.t 115)⟩,
                  ⟨some 117, some (114, true), .bin .add (.t 116) (.c (.int .i64 1))⟩,
                  ⟨some 118, some (114, true), .mv (.t 10)⟩,
                  ⟨some 119, some (114, true), .bin .eql (.t 117) (.t 118)⟩,
                  ⟨some 120, none, .pick (.t 114) (.t 119) (.c (.bool false))⟩,
                  ⟨some 121, none, .mv (.t 120)⟩,
                  ⟨some 122, some (121, true), .mv (.t 22)⟩,
                  ⟨some 123, some (121, true), .bin .neq (.t 122) (.c (.int .i64 1))⟩,
                  ⟨some 124, some (121, true), .mv (.t 123)⟩,
                  ⟨some 125, some (124, false), .mv (.t 17)⟩,
                  ⟨some 126, some (124, false), .bin .sub (.t 125) (.c (.int .i64 1))⟩,
                  ⟨some 127, some (124, false), .mv (.t 13)⟩,
                  ⟨some 128, some (124, false), .bin .add (.t 127) (.c (.int .i64 1))⟩,
                  ⟨some 129, some (124, false), .bin .lss (.t 126) (.t 128)⟩,
                  ⟨some 130, some (121, true), .pick (.t 124) (.c (.bool true)) (.t 129)⟩,
                  ⟨some 131, some (121, true), .mv (.t 130)⟩,
                  ⟨some 132, some (131, false), .mv (.t 16)⟩,
                  ⟨some 133, some (131, false), .mv (.t 13)⟩,
                  ⟨some 134, some (131, false), .bin .geq (.t 132) (.t 133)⟩,
                  ⟨some 135, some (121, true), .pick (.t 131) (.c (.bool true)) (.t 134)⟩,
                  ⟨some 136, none, .pick (.t 121) (.t 135) (.c (.bool false))⟩,
                  ⟨some 8, none, .mv (.t 136)⟩] none)
                 .ret)))))))))))))))))⟩
theorem nf5_ok : compF Try.prog 5 = some nf5 := by kernel_rfl

/-- comitia/comitialaw12.TallyCounts -/
def nf6 : NF := ⟨156, [.tmp 6],
 (.seq
 (.region [
  ⟨some 6, none, .mv (.c (.bool false))⟩] none)
 (.seq
  (.region [
   ⟨some 22, none, .call 9 []⟩,
   ⟨some 7, none, .mv (.t 22)⟩] none)
  (.seq
   (.seq
    (.region [
     ⟨some 23, none, .mv (.t 7)⟩,
     ⟨some 24, none, .un .not (.t 23)⟩] none)
    (.cond (.t 24)
     (.seq
      (.region [
       ⟨some 6, none, .mv (.c (.bool false))⟩] none)
      .ret)
     .skip))
   (.seq
    (.region [
     ⟨some 25, none, .mv (.t 0)⟩,
     ⟨some 26, none, .bin .rem (.t 25) (.c (.int .u8 3))⟩,
     ⟨some 27, none, .i2i .i64 (.t 26)⟩,
     ⟨some 28, none, .bin .mul (.c (.int .i64 2)) (.t 27)⟩,
     ⟨some 29, none, .bin .add (.c (.int .i64 3)) (.t 28)⟩,
     ⟨some 8, none, .mv (.t 29)⟩] none)
    (.seq
     (.region [
      ⟨some 30, none, .mv (.t 1)⟩,
      ⟨some 31, none, .i2i .i64 (.t 30)⟩,
      ⟨some 32, none, .mv (.t 8)⟩,
      ⟨some 33, none, .bin .rem (.t 31) (.t 32)⟩,
      ⟨some 34, none, .bin .add (.c (.int .i64 1)) (.t 33)⟩,
      ⟨some 9, none, .mv (.t 34)⟩] none)
     (.seq
      (.region [
       ⟨some 36, none, .mv (.t 8)⟩,
       ⟨some 37, none, .mv (.t 9)⟩,
       ⟨some 38, none, .call 11 [(.t 36), (.t 37)]⟩,
       ⟨some 35, none, .mv (.t 38)⟩,
       ⟨some 39, none, .ext (.t 35) 0⟩,
       ⟨some 40, none, .ext (.t 35) 1⟩,
       ⟨some 10, none, .mv (.t 39)⟩,
       ⟨some 11, none, .mv (.t 40)⟩] none)
      (.seq
       (.seq
        (.region [
         ⟨some 41, none, .mv (.t 10)⟩,
         ⟨some 42, none, .eq .ptr false (.t 41) (.c (.nilp))⟩,
         ⟨some 43, none, .mv (.t 42)⟩,
         ⟨some 44, some (43, false), .mv (.t 11)⟩,
         ⟨some 45, some (43, false), .bin .neq (.t 44) (.c (.int .i64 0))⟩,
         ⟨some 46, none, .pick (.t 43) (.c (.bool true)) (.t 45)⟩] none)
        (.cond (.t 46)
         (.seq
          (.region [
           ⟨some 6, none, .mv (.c (.bool false))⟩] none)
          .ret)
         .skip))
       (.seq
        (.region [
         ⟨some 12, none, .new [.bool false, .bool false, .bool false, .bool false, .bool false, .bool false, .bool false, .bool false, .bool false, .bool false]⟩] none)
        (.seq
         (.region [
          ⟨some 13, none, .new [.bool false, .bool false, .bool false, .bool false, .bool false, .bool false, .bool false, .bool false, .bool false, .bool false]⟩] none)
         (.seq
          (.region [
           ⟨some 14, none, .mv (.c (.int .i64 0))⟩] none)
          (.seq
           (.region [
            ⟨some 15, none, .mv (.c (.int .i64 0))⟩] none)
           (.seq
            (.seq
             (.region [
              ⟨some 16, none, .mv (.c (.int .i64 0))⟩] none)
             (.block 0 (.loop (.seq
                (.seq
                 (.region [
                  ⟨some 47, none, .mv (.t 16)⟩,
                  ⟨some 48, none, .mv (.t 2)⟩,
                  ⟨some 49, none, .len .slc (.t 48)⟩,
                  ⟨some 50, none, .bin .lss (.t 47) (.t 49)⟩,
                  ⟨some 51, none, .mv (.t 50)⟩,
                  ⟨some 52, some (51, true), .mv (.t 16)⟩,
                  ⟨some 53, some (51, true), .bin .lss (.t 52) (.c (.int .i64 20))⟩,
                  ⟨some 54, none, .pick (.t 51) (.t 53) (.c (.bool false))⟩] none)
                 (.cond (.t 54)
                  .skip
                  (.exit 0)))
                (.seq
                 (.block 1 (.seq
                   (.region [
                    ⟨some 57, none, .mv (.t 2)⟩,
                    ⟨some 58, none, .mv (.t 16)⟩,
                    ⟨some 59, none, .iaddr (.slc 1) (.t 57) (.t 58)⟩,
                    ⟨some 60, none, .load false 1 (.t 59)⟩,
                    ⟨some 61, none, .bin .rem (.t 60) (.c (.int .u8 10))⟩,
                    ⟨some 62, none, .i2i .i64 (.t 61)⟩,
                    ⟨some 17, none, .mv (.t 62)⟩] none)
                   (.seq
                    (.region [
                     ⟨some 63, none, .mv (.t 17)⟩,
                     ⟨some 64, none, .bin .geq (.t 63) (.c (.int .i64 1))⟩,
                     ⟨some 65, none, .mv (.t 64)⟩,
                     ⟨some 66, some (65, true), .mv (.t 17)⟩,
                     ⟨some 67, some (65, true), .mv (.t 8)⟩,
                     ⟨some 68, some (65, true), .bin .leq (.t 66) (.t 67)⟩,
                     ⟨some 69, none, .pick (.t 65) (.t 68) (.c (.bool false))⟩,
                     ⟨some 70, none, .mv (.t 69)⟩,
                     ⟨some 71, some (70, true), .mv (.t 17)⟩,
                     ⟨some 72, some (70, true), .mv (.t 9)⟩,
                     ⟨some 73, some (70, true), .bin .neq (.t 71) (.t 72)⟩,
                     ⟨some 74, none, .pick (.t 70) (.t 73) (.c (.bool false))⟩,
                     ⟨some 18, none, .mv (.t 74)⟩] none)
                    (.seq
                     (.region [
                      ⟨some 75, none, .mv (.t 2)⟩,
                      ⟨some 76, none, .mv (.t 16)⟩,
                      ⟨some 77, none, .iaddr (.slc 1) (.t 75) (.t 76)⟩,
                      ⟨some 78, none, .load false 1 (.t 77)⟩,
                      ⟨some 79, none, .bin .rem (.t 78) (.c (.int .u8 20))⟩,
                      ⟨some 80, none, .bin .geq (.t 79) (.c (.int .u8 10))⟩] none)
                     (.cond (.t 80)
                      (.seq
                       (.seq
                        (.region [
                         ⟨some 81, none, .mv (.t 10)⟩,
                         ⟨some 82, none, .mv (.t 17)⟩,
                         ⟨some 83, none, .build [.int .u32 0, .slc 0 true []] []⟩,
                         ⟨some 84, none, .call 17 [(.t 81), (.t 82), (.t 83), (.c (.bool false))]⟩,
                         ⟨some 85, none, .mv (.t 18)⟩,
                         ⟨some 86, none, .mv (.t 85)⟩,
                         ⟨some 87, some (86, true), .mv (.t 17)⟩,
                         ⟨some 88, some (86, true), .iaddr (.arr 10 1) (.t 12) (.t 87)⟩,
                         ⟨some 89, some (86, true), .load false 1 (.t 88)⟩,
                         ⟨some 90, some (86, true), .un .not (.t 89)⟩,
                         ⟨some 91, none, .pick (.t 86) (.t 90) (.c (.bool false))⟩,
                         ⟨some 92, none, .eq (.key ⟨false, [.bool]⟩) true (.t 84) (.t 91)⟩] none)
                        (.cond (.t 92)
                         (.seq
                          (.region [
                           ⟨some 6, none, .mv (.c (.bool false))⟩] none)
                          .ret)
                         .skip))
                       (.seq
                        (.seq
                         (.region [
                          ⟨some 93, none, .mv (.t 18)⟩,
                          ⟨some 94, none, .mv (.t 93)⟩,
                          ⟨some 95, some (94, true), .mv (.t 17)⟩,
                          ⟨some 96, some (94, true), .iaddr (.arr 10 1) (.t 12) (.t 95)⟩,
                          ⟨some 97, some (94, true), .load false 1 (.t 96)⟩,
                          ⟨some 98, some (94, true), .un .not (.t 97)⟩,
                          ⟨some 99, none, .pick (.t 94) (.t 98) (.c (.bool false))⟩] none)
                         (.cond (.t 99)
                          (.region [
                           ⟨some 100, none, .mv (.t 14)⟩,
                           ⟨some 101, none, .bin .add (.t 100) (.c (.int .i64 1))⟩,
                           ⟨some 14, none, .mv (.t 101)⟩] none)
                          .skip))
                        (.region [
                         ⟨some 102, none, .mv (.t 17)⟩,
                         ⟨some 103, none, .iaddr (.arr 10 1) (.t 12) (.t 102)⟩,
                         ⟨none, none, .store 1 (.t 103) (.c (.bool true))⟩] none)))
                      (.seq
                       (.seq
                        (.region [
                         ⟨some 104, none, .mv (.t 10)⟩,
                         ⟨some 105, none, .mv (.t 17)⟩,
                         ⟨some 106, none, .call 15 [(.t 104), (.t 105)]⟩,
                         ⟨some 107, none, .mv (.t 18)⟩,
                         ⟨some 108, none, .mv (.t 107)⟩,
                         ⟨some 109, some (108, true), .mv (.t 17)⟩,
                         ⟨some 110, some (108, true), .iaddr (.arr 10 1) (.t 13) (.t 109)⟩,
                         ⟨some 111, some (108, true), .load false 1 (.t 110)⟩,
                         ⟨some 112, some (108, true), .un .not (.t 111)⟩,
                         ⟨some 113, none, .pick (.t 108) (.t 112) (.c (.bool false))⟩,
                         ⟨some 114, none, .eq (.key ⟨false, [.bool]⟩) true (.t 106) (.t 113)⟩] none)
                        (.cond (.t 114)
                         (.seq
                          (.region [
                           ⟨some 6, none, .mv (.c (.bool false))⟩] none)
                          .ret)
                         .skip))
                       (.seq
                        (.seq
                         (.region [
                          ⟨some 115, none, .mv (.t 18)⟩,
                          ⟨some 116, none, .mv (.t 115)⟩,
                          ⟨some 117, some (116, true), .mv (.t 17)⟩,
                          ⟨some 118, some (116, true), .iaddr (.arr 10 1) (.t 13) (.t 117)⟩,
                          ⟨some 119, some (116, true), .load false 1 (.t 118)⟩,
                          ⟨some 120, some (116, true), .un .not (.t 119)⟩,
                          ⟨some 121, none, .pick (.t 116) (.t 120) (.c (.bool false))⟩] none)
                         (.cond (.t 121)
                          (.region [
                           ⟨some 122, none, .mv (.t 15)⟩,
                           ⟨some 123, none, .bin .add (.t 122) (.c (.int .i64 1))⟩,
                           ⟨some 15, none, .mv (.t 123)⟩] none)
                          .skip))
                        (.region [
                         ⟨some 124, none, .mv (.t 17)⟩,
                         ⟨some 125, none, .iaddr (.arr 10 1) (.t 13) (.t 124)⟩,
                         ⟨none, none, .store 1 (.t 125) (.c (.bool true))⟩] none))))))))
                 (.region [
                  ⟨some 55, none, .mv (.t 16)⟩,
                  ⟨some 56, none, .bin .add (.t 55) (.c (.int .i64 1))⟩,
                  ⟨some 16, none, .mv (.t 56)⟩] none))))))
            (.seq
             (.region [
              ⟨some 127, none, .mv (.t 10)⟩,
              ⟨some 128, none, .call 22 [(.t 127)]⟩,
              ⟨some 126, none, .mv (.t 128)⟩,
              ⟨some 129, none, .ext (.t 126) 0⟩,
              ⟨some 130, none, .ext (.t 126) 1⟩,
              ⟨some 131, none, .ext (.t 126) 2⟩,
              ⟨some 19, none, .mv (.t 129)⟩,
              ⟨some 20, none, .mv (.t 130)⟩,
              ⟨some 21, none, .mv (.t 131)⟩] none)
             (.seq
              (.region [
               ⟨some 132, none, .mv (.t 7)⟩,
               ⟨some 133, none, .mv (.t 132)⟩,
               ⟨some 134, some (133, true), .mv (.t 19)⟩,
               ⟨some 135, some (133, true), .mv (.t 14)⟩,
               ⟨some 136, some (133, true), .bin .eql (.t 134) (.t 135)⟩,
               ⟨some 137, none, .pick (.t 133) (.t 136) (.c (.bool false))⟩,
               ⟨some 138, none, .mv (.t 137)⟩,
               ⟨some 139, some (138, true), .mv (.t 20)⟩,
               ⟨some 140, some (138, true), .bin .eql (.t 139) (.c (.int .i64 0))⟩,
               ⟨some 141, none, .pick (.t 138) (.t 140) (.c (.bool false))⟩,
               ⟨some 142, none, .mv (.t 141)⟩,
               ⟨some 143, some (142, true), .mv (.t 21)⟩,
               ⟨some 144, some (142, true), .mv (.t 15)⟩,
               ⟨some 145, some (142, true), .bin .eql (.t 143) (.t 144)⟩,
               ⟨some 146, none, .pick (.t 142) (.t 145) (.c (.bool false))⟩,
               ⟨some 147, none, .mv (.t 146)⟩,
               ⟨some 148, some (147, true), .mv (.t 10)⟩,
               ⟨some 149, some (147, true), .call 25 [(.t 148)]⟩,
               ⟨some 150, some (147, true), .mv (.t 15)⟩,
               ⟨some 151, some (147, true), .mv (.t 8)⟩,
               ⟨some 152, some (147, true), .bin .quo (.t 151) (.c (.int .i64 2))⟩,
               ⟨some 153, some (147, true), .bin .geq (.t 150) (.t 152)⟩,
               ⟨some 154, some (147, true), .eq (.key ⟨false, [.bool]⟩) false (.t 149) (.t 153)⟩,
               ⟨some 155, none, .pick (.t 147) (.t 154) (.c (.bool false))⟩,
               ⟨some 6, none, .mv (.t 155)⟩] none)
              .ret))))))))))))))⟩
theorem nf6_ok : compF Try.prog 6 = some nf6 := by kernel_rfl

/-- comitia/comitialaw12.TallyFaults -/
def nf7 : NF := ⟨74, [.tmp 4],
 (.seq
 (.region [
  ⟨some 4, none, .mv (.c (.bool false))⟩] none)
 (.seq
  (.region [
   ⟨some 10, none, .call 9 []⟩,
   ⟨some 5, none, .mv (.t 10)⟩] none)
  (.seq
   (.seq
    (.region [
     ⟨some 11, none, .mv (.t 5)⟩,
     ⟨some 12, none, .un .not (.t 11)⟩] none)
    (.cond (.t 12)
     (.seq
      (.region [
       ⟨some 4, none, .mv (.c (.bool false))⟩] none)
      .ret)
     .skip))
   (.seq
    (.region [
     ⟨some 14, none, .mv (.t 0)⟩,
     ⟨some 15, none, .mv (.t 1)⟩,
     ⟨some 16, none, .call 11 [(.t 14), (.t 15)]⟩,
     ⟨some 13, none, .mv (.t 16)⟩,
     ⟨some 17, none, .ext (.t 13) 0⟩,
     ⟨some 18, none, .ext (.t 13) 1⟩,
     ⟨some 6, none, .mv (.t 17)⟩,
     ⟨some 7, none, .mv (.t 18)⟩] none)
    (.seq
     (.region [
      ⟨some 19, none, .mv (.t 0)⟩,
      ⟨some 20, none, .call 13 [(.t 19)]⟩,
      ⟨some 8, none, .mv (.t 20)⟩] none)
     (.seq
      (.region [
       ⟨some 9, none, .mv (.c (.int .i64 0))⟩] none)
      (.seq
       (.seq
        (.region [
         ⟨some 21, none, .mv (.t 0)⟩,
         ⟨some 22, none, .bin .eql (.t 21) (.c (.int .i64 3))⟩,
         ⟨some 23, none, .mv (.t 22)⟩,
         ⟨some 24, some (23, false), .mv (.t 0)⟩,
         ⟨some 25, some (23, false), .bin .eql (.t 24) (.c (.int .i64 5))⟩,
         ⟨some 26, none, .pick (.t 23) (.c (.bool true)) (.t 25)⟩,
         ⟨some 27, none, .mv (.t 26)⟩,
         ⟨some 28, some (27, false), .mv (.t 0)⟩,
         ⟨some 29, some (27, false), .bin .eql (.t 28) (.c (.int .i64 7))⟩,
         ⟨some 30, none, .pick (.t 27) (.c (.bool true)) (.t 29)⟩] none)
        (.cond (.t 30)
         (.region [
          ⟨some 31, none, .mv (.t 0)⟩,
          ⟨some 32, none, .bin .quo (.t 31) (.c (.int .i64 2))⟩,
          ⟨some 9, none, .mv (.t 32)⟩] none)
         .skip))
       (.seq
        (.region [
         ⟨some 33, none, .mv (.t 5)⟩,
         ⟨some 34, none, .mv (.t 33)⟩,
         ⟨some 35, some (34, true), .mv (.t 8)⟩,
         ⟨some 36, some (34, true), .mv (.t 9)⟩,
         ⟨some 37, some (34, true), .bin .eql (.t 35) (.t 36)⟩,
         ⟨some 38, none, .pick (.t 34) (.t 37) (.c (.bool false))⟩,
         ⟨some 39, none, .mv (.t 38)⟩,
         ⟨some 40, some (39, true), .mv (.t 7)⟩,
         ⟨some 41, some (39, true), .bin .eql (.t 40) (.c (.int .i64 0))⟩,
         ⟨some 42, some (39, true), .mv (.t 9)⟩,
         ⟨some 43, some (39, true), .bin .gtr (.t 42) (.c (.int .i64 0))⟩,
         ⟨some 44, some (39, true), .mv (.t 43)⟩,
         ⟨some 45, some (44, true), .mv (.t 1)⟩,
         ⟨some 46, some (44, true), .bin .geq (.t 45) (.c (.int .i64 1))⟩,
         ⟨some 47, some (39, true), .pick (.t 44) (.t 46) (.c (.bool false))⟩,
         ⟨some 48, some (39, true), .mv (.t 47)⟩,
         ⟨some 49, some (48, true), .mv (.t 1)⟩,
         ⟨some 50, some (48, true), .mv (.t 0)⟩,
         ⟨some 51, some (48, true), .bin .leq (.t 49) (.t 50)⟩,
         ⟨some 52, some (39, true), .pick (.t 48) (.t 51) (.c (.bool false))⟩,
         ⟨some 53, some (39, true), .eq (.key ⟨false, [.bool]⟩) false (.t 41) (.t 52)⟩,
         ⟨some 54, none, .pick (.t 39) (.t 53) (.c (.bool false))⟩,
         ⟨some 55, none, .mv (.t 54)⟩,
         ⟨some 56, some (55, true), .mv (.t 6)⟩,
         ⟨some 57, some (55, true), .eq .ptr true (.t 56) (.c (.nilp))⟩,
         ⟨some 58, some (55, true), .mv (.t 7)⟩,
         ⟨some 59, some (55, true), .bin .eql (.t 58) (.c (.int .i64 0))⟩,
         ⟨some 60, some (55, true), .eq (.key ⟨false, [.bool]⟩) false (.t 57) (.t 59)⟩,
         ⟨some 61, none, .pick (.t 55) (.t 60) (.c (.bool false))⟩,
         ⟨some 62, none, .mv (.t 61)⟩,
         ⟨some 63, some (62, true), .call 13 [(.c (.int .i64 3))]⟩,
         ⟨some 64, some (62, true), .bin .eql (.t 63) (.c (.int .i64 1))⟩,
         ⟨some 65, none, .pick (.t 62) (.t 64) (.c (.bool false))⟩,
         ⟨some 66, none, .mv (.t 65)⟩,
         ⟨some 67, some (66, true), .call 13 [(.c (.int .i64 5))]⟩,
         ⟨some 68, some (66, true), .bin .eql (.t 67) (.c (.int .i64 2))⟩,
         ⟨some 69, none, .pick (.t 66) (.t 68) (.c (.bool false))⟩,
         ⟨some 70, none, .mv (.t 69)⟩,
         ⟨some 71, some (70, true), .call 13 [(.c (.int .i64 7))]⟩,
         ⟨some 72, some (70, true), .bin .eql (.t 71) (.c (.int .i64 3))⟩,
         ⟨some 73, none, .pick (.t 70) (.t 72) (.c (.bool false))⟩,
         ⟨some 4, none, .mv (.t 73)⟩] none)
        .ret))))))))⟩
theorem nf7_ok : compF Try.prog 7 = some nf7 := by kernel_rfl

/-- comitia/comitialaw12.TallyZero -/
def nf8 : NF := ⟨109, [.tmp 8],
 (.seq
 (.region [
  ⟨some 7, none, .box (.t 3)⟩,
  ⟨some 8, none, .mv (.c (.bool false))⟩] none)
 (.seq
  (.region [
   ⟨some 23, none, .call 9 []⟩,
   ⟨some 9, none, .mv (.t 23)⟩] none)
  (.seq
   (.seq
    (.region [
     ⟨some 24, none, .mv (.t 9)⟩,
     ⟨some 25, none, .un .not (.t 24)⟩] none)
    (.cond (.t 25)
     (.seq
      (.region [
       ⟨some 8, none, .mv (.c (.bool false))⟩] none)
      .ret)
     .skip))
   (.seq
    (.region [
     ⟨some 26, none, .mv (.t 0)⟩,
     ⟨some 27, none, .bin .rem (.t 26) (.c (.int .u8 3))⟩,
     ⟨some 28, none, .i2i .i64 (.t 27)⟩,
     ⟨some 29, none, .bin .mul (.c (.int .i64 2)) (.t 28)⟩,
     ⟨some 30, none, .bin .add (.c (.int .i64 3)) (.t 29)⟩,
     ⟨some 10, none, .mv (.t 30)⟩] none)
    (.seq
     (.region [
      ⟨some 32, none, .mv (.t 10)⟩,
      ⟨some 33, none, .call 11 [(.t 32), (.c (.int .i64 1))]⟩,
      ⟨some 31, none, .mv (.t 33)⟩,
      ⟨some 34, none, .ext (.t 31) 0⟩,
      ⟨some 35, none, .ext (.t 31) 1⟩,
      ⟨some 11, none, .mv (.t 34)⟩,
      ⟨some 12, none, .mv (.t 35)⟩] none)
     (.seq
      (.seq
       (.region [
        ⟨some 36, none, .mv (.t 11)⟩,
        ⟨some 37, none, .eq .ptr false (.t 36) (.c (.nilp))⟩,
        ⟨some 38, none, .mv (.t 37)⟩,
        ⟨some 39, some (38, false), .mv (.t 12)⟩,
        ⟨some 40, some (38, false), .bin .neq (.t 39) (.c (.int .i64 0))⟩,
        ⟨some 41, none, .pick (.t 38) (.c (.bool true)) (.t 40)⟩] none)
       (.cond (.t 41)
        (.seq
         (.region [
          ⟨some 8, none, .mv (.c (.bool false))⟩] none)
         .ret)
        .skip))
      (.seq
       (.region [
        ⟨some 42, none, .faddr 2 (.t 7)⟩,
        ⟨none, none, .store 1 (.t 42) (.c (.bool true))⟩] none)
       (.seq
        (.region [
         ⟨some 43, none, .load true 4 (.t 7)⟩,
         ⟨some 44, none, .call 10 [(.t 43)]⟩,
         ⟨some 13, none, .new [.int .u32 0, .slc 0 true []]⟩,
         ⟨none, none, .store 2 (.t 13) (.t 44)⟩] none)
        (.seq
         (.region [
          ⟨some 45, none, .mv (.t 1)⟩,
          ⟨some 46, none, .i2i .i64 (.t 45)⟩,
          ⟨some 47, none, .mv (.t 10)⟩,
          ⟨some 48, none, .bin .rem (.t 46) (.t 47)⟩,
          ⟨some 14, none, .mv (.t 48)⟩] none)
         (.seq
          (.seq
           (.region [
            ⟨some 15, none, .mv (.c (.int .i64 0))⟩] none)
           (.block 0 (.loop (.seq
              (.seq
               (.region [
                ⟨some 49, none, .mv (.t 15)⟩,
                ⟨some 50, none, .mv (.t 14)⟩,
                ⟨some 51, none, .bin .lss (.t 49) (.t 50)⟩] none)
               (.cond (.t 51)
                .skip
                (.exit 0)))
              (.seq
               (.block 1 (.region [
                 ⟨some 54, none, .mv (.t 11)⟩,
                 ⟨some 55, none, .mv (.t 15)⟩,
                 ⟨some 56, none, .bin .add (.c (.int .i64 2)) (.t 55)⟩,
                 ⟨some 57, none, .load true 2 (.t 13)⟩,
                 ⟨some 58, none, .call 17 [(.t 54), (.t 56), (.t 57), (.c (.bool true))]⟩] none))
               (.region [
                ⟨some 52, none, .mv (.t 15)⟩,
                ⟨some 53, none, .bin .add (.t 52) (.c (.int .i64 1))⟩,
                ⟨some 15, none, .mv (.t 53)⟩] none))))))
          (.seq
           (.region [
            ⟨some 59, none, .mv (.t 10)⟩,
            ⟨some 60, none, .bin .quo (.t 59) (.c (.int .i64 2))⟩,
            ⟨some 16, none, .mv (.t 60)⟩] none)
           (.seq
            (.region [
             ⟨some 62, none, .mv (.t 11)⟩,
             ⟨some 63, none, .mv (.t 2)⟩,
             ⟨some 64, none, .load true 2 (.t 13)⟩,
             ⟨some 65, none, .call 20 [(.t 62), (.c (.bool false)), (.t 63), (.t 64)]⟩,
             ⟨some 61, none, .mv (.t 65)⟩,
             ⟨some 66, none, .ext (.t 61) 0⟩,
             ⟨some 67, none, .ext (.t 61) 1⟩,
             ⟨some 18, none, .new [.int .u32 0, .slc 0 true []]⟩,
             ⟨some 17, none, .mv (.t 66)⟩,
             ⟨none, none, .store 2 (.t 18) (.t 67)⟩] none)
            (.seq
             (.region [
              ⟨some 69, none, .mv (.t 11)⟩,
              ⟨some 70, none, .mv (.t 2)⟩,
              ⟨some 71, none, .load true 2 (.t 13)⟩,
              ⟨some 72, none, .call 20 [(.t 69), (.c (.bool true)), (.t 70), (.t 71)]⟩,
              ⟨some 68, none, .mv (.t 72)⟩,
              ⟨some 73, none, .ext (.t 68) 0⟩,
              ⟨some 74, none, .ext (.t 68) 1⟩,
              ⟨some 20, none, .new [.int .u32 0, .slc 0 true []]⟩,
              ⟨some 19, none, .mv (.t 73)⟩,
              ⟨none, none, .store 2 (.t 20) (.t 74)⟩] none)
             (.seq
              (.region [
               ⟨some 21, none, .mv (.c (.int .i64 0))⟩] none)
              (.seq
               (.seq
                (.region [
                 ⟨some 75, none, .mv (.t 14)⟩,
                 ⟨some 76, none, .mv (.t 16)⟩,
                 ⟨some 77, none, .bin .geq (.t 75) (.t 76)⟩] none)
                (.cond (.t 77)
                 (.region [
                  ⟨some 21, none, .mv (.c (.int .i64 2))⟩] none)
                 .skip))
               (.seq
                (.region [
                 ⟨some 22, none, .mv (.c (.int .i64 0))⟩] none)
                (.seq
                 (.seq
                  (.region [
                   ⟨some 78, none, .mv (.t 14)⟩,
                   ⟨some 79, none, .mv (.t 16)⟩,
                   ⟨some 80, none, .bin .mul (.c (.int .i64 2)) (.t 79)⟩,
                   ⟨some 81, none, .bin .sub (.t 80) (.c (.int .i64 1))⟩,
                   ⟨some 82, none, .bin .geq (.t 78) (.t 81)⟩] none)
                  (.cond (.t 82)
                   (.region [
                    ⟨some 22, none, .mv (.c (.int .i64 1))⟩] none)
                   (.seq
                    (.region [
                     ⟨some 83, none, .mv (.t 14)⟩,
                     ⟨some 84, none, .mv (.t 16)⟩,
                     ⟨some 85, none, .bin .geq (.t 83) (.t 84)⟩,
                     ⟨some 86, none, .mv (.t 85)⟩,
                     ⟨some 87, some (86, true), .mv (.t 2)⟩,
                     ⟨some 88, none, .pick (.t 86) (.t 87) (.c (.bool false))⟩] none)
                    (.cond (.t 88)
                     (.region [
                      ⟨some 22, none, .mv (.c (.int .i64 2))⟩] none)
                     .skip))))
                 (.seq
                  (.region [
                   ⟨some 89, none, .mv (.t 9)⟩,
                   ⟨some 90, none, .mv (.t 89)⟩,
                   ⟨some 91, some (90, true), .mv (.t 17)⟩,
                   ⟨some 92, some (90, true), .mv (.t 21)⟩,
                   ⟨some 93, some (90, true), .bin .eql (.t 91) (.t 92)⟩,
                   ⟨some 94, none, .pick (.t 90) (.t 93) (.c (.bool false))⟩,
                   ⟨some 95, none, .mv (.t 94)⟩,
                   ⟨some 96, some (95, true), .mv (.t 19)⟩,
                   ⟨some 97, some (95, true), .mv (.t 22)⟩,
                   ⟨some 98, some (95, true), .bin .eql (.t 96) (.t 97)⟩,
                   ⟨some 99, none, .pick (.t 95) (.t 98) (.c (.bool false))⟩,
                   ⟨some 100, none, .mv (.t 99)⟩,
                   ⟨some 101, some (100, true), .mv (.t 17)⟩,
                   ⟨some 102, some (100, true), .bin .eql (.t 101) (.c (.int .i64 0))⟩,
                   ⟨some 103, some (100, true), .mv (.t 102)⟩,
                   ⟨some 104, some (103, false), .load true 2 (.t 18)⟩,
                   ⟨some 105, some (103, false), .load true 2 (.t 13)⟩,
                   ⟨some 106, some (103, false), .call 27 [(.t 104), (.t 105)]⟩,
                   ⟨some 107, some (100, true), .pick (.t 103) (.c (.bool true)) (.t 106)⟩,
                   ⟨some 108, none, .pick (.t 100) (.t 107) (.c (.bool false))⟩,
                   ⟨some 8, none, .mv (.t 108)⟩] none)
                  .ret))))))))))))))))))⟩
theorem nf8_ok : compF Try.prog 8 = some nf8 := by kernel_rfl

/-- comitia/comitialaw12.examples -/
def nf9 : NF := ⟨151, [.tmp 0],
 (.seq
 (.region [
  ⟨some 0, none, .mv (.c (.bool false))⟩] none)
 (.seq
  (.region [
   ⟨some 23, none, .call 11 [(.c (.int .i64 4)), (.c (.int .i64 1))]⟩,
   ⟨some 22, none, .mv (.t 23)⟩,
   ⟨some 24, none, .ext (.t 22) 0⟩,
   ⟨some 25, none, .ext (.t 22) 1⟩,
   ⟨some 1, none, .mv (.t 24)⟩,
   ⟨some 2, none, .mv (.t 25)⟩] none)
  (.seq
   (.region [
    ⟨some 27, none, .call 11 [(.c (.int .i64 3)), (.c (.int .i64 1))]⟩,
    ⟨some 26, none, .mv (.t 27)⟩,
    ⟨some 28, none, .ext (.t 26) 0⟩,
    ⟨some 29, none, .ext (.t 26) 1⟩,
    ⟨some 3, none, .mv (.t 28)⟩,
    ⟨some 4, none, .mv (.t 29)⟩] none)
   (.seq
    (.seq
     (.region [
      ⟨some 30, none, .mv (.t 3)⟩,
      ⟨some 31, none, .eq .ptr false (.t 30) (.c (.nilp))⟩] none)
     (.cond (.t 31)
      (.seq
       (.region [
        ⟨some 0, none, .mv (.c (.bool false))⟩] none)
       .ret)
      .skip))
    (.seq
     (.region [
      ⟨some 32, none, .build [.int .u32 0, .slc 0 true []] [(0, 1, (.c (.int .u32 1)))]⟩,
      ⟨some 5, none, .new [.int .u32 0, .slc 0 true []]⟩,
      ⟨none, none, .store 2 (.t 5) (.t 32)⟩] none)
     (.seq
      (.region [
       ⟨some 33, none, .build [.int .i64 0, .int .i64 0] [(0, 1, (.c (.int .i64 2))), (1, 1, (.c (.int .i64 1)))]⟩,
       ⟨some 34, none, .bslc 2 1 [.int .i64 0, .int .i64 0] [(0, 2, (.t 33))]⟩,
       ⟨some 35, none, .build [.int .u32 0, .slc 0 true []] [(0, 1, (.c (.int .u32 2))), (1, 1, (.t 34))]⟩,
       ⟨some 6, none, .new [.int .u32 0, .slc 0 true []]⟩,
       ⟨none, none, .store 2 (.t 6) (.t 35)⟩] none)
      (.seq
       (.region [
        ⟨some 37, none, .mv (.t 3)⟩,
        ⟨some 38, none, .load true 2 (.t 5)⟩,
        ⟨some 39, none, .call 20 [(.t 37), (.c (.bool true)), (.c (.bool false)), (.t 38)]⟩,
        ⟨some 36, none, .mv (.t 39)⟩,
        ⟨some 40, none, .ext (.t 36) 0⟩,
        ⟨some 41, none, .ext (.t 36) 1⟩,
        ⟨some 8, none, .new [.int .u32 0, .slc 0 true []]⟩,
        ⟨some 7, none, .mv (.t 40)⟩,
        ⟨none, none, .store 2 (.t 8) (.t 41)⟩] none)
       (.seq
        (.region [
         ⟨some 42, none, .mv (.t 3)⟩,
         ⟨some 43, none, .load true 2 (.t 6)⟩,
         ⟨some 44, none, .call 17 [(.t 42), (.c (.int .i64 2)), (.t 43), (.c (.bool false))]⟩,
         ⟨some 9, none, .mv (.t 44)⟩] none)
        (.seq
         (.region [
          ⟨some 45, none, .mv (.t 3)⟩,
          ⟨some 46, none, .load true 2 (.t 5)⟩,
          ⟨some 47, none, .call 17 [(.t 45), (.c (.int .i64 2)), (.t 46), (.c (.bool true))]⟩,
          ⟨some 10, none, .mv (.t 47)⟩] none)
         (.seq
          (.region [
           ⟨some 49, none, .mv (.t 3)⟩,
           ⟨some 50, none, .load true 2 (.t 5)⟩,
           ⟨some 51, none, .call 20 [(.t 49), (.c (.bool true)), (.c (.bool false)), (.t 50)]⟩,
           ⟨some 48, none, .mv (.t 51)⟩,
           ⟨some 52, none, .ext (.t 48) 0⟩,
           ⟨some 53, none, .ext (.t 48) 1⟩,
           ⟨some 12, none, .new [.int .u32 0, .slc 0 true []]⟩,
           ⟨some 11, none, .mv (.t 52)⟩,
           ⟨none, none, .store 2 (.t 12) (.t 53)⟩] none)
          (.seq
           (.region [
            ⟨some 55, none, .mv (.t 3)⟩,
            ⟨some 56, none, .load true 2 (.t 5)⟩,
            ⟨some 57, none, .call 20 [(.t 55), (.c (.bool true)), (.c (.bool true)), (.t 56)]⟩,
            ⟨some 54, none, .mv (.t 57)⟩,
            ⟨some 58, none, .ext (.t 54) 0⟩,
            ⟨some 59, none, .ext (.t 54) 1⟩,
            ⟨some 14, none, .new [.int .u32 0, .slc 0 true []]⟩,
            ⟨some 13, none, .mv (.t 58)⟩,
            ⟨none, none, .store 2 (.t 14) (.t 59)⟩] none)
           (.seq
            (.region [
             ⟨some 60, none, .mv (.t 3)⟩,
             ⟨some 61, none, .load true 2 (.t 5)⟩,
             ⟨some 62, none, .call 17 [(.t 60), (.c (.int .i64 3)), (.t 61), (.c (.bool true))]⟩,
             ⟨some 15, none, .mv (.t 62)⟩] none)
            (.seq
             (.region [
              ⟨some 64, none, .mv (.t 3)⟩,
              ⟨some 65, none, .load true 2 (.t 5)⟩,
              ⟨some 66, none, .call 20 [(.t 64), (.c (.bool true)), (.c (.bool false)), (.t 65)]⟩,
              ⟨some 63, none, .mv (.t 66)⟩,
              ⟨some 67, none, .ext (.t 63) 0⟩,
              ⟨some 68, none, .ext (.t 63) 1⟩,
              ⟨some 17, none, .new [.int .u32 0, .slc 0 true []]⟩,
              ⟨some 16, none, .mv (.t 67)⟩,
              ⟨none, none, .store 2 (.t 17) (.t 68)⟩] none)
             (.seq
              (.region [
               ⟨some 70, none, .mv (.t 3)⟩,
               ⟨some 71, none, .call 22 [(.t 70)]⟩,
               ⟨some 69, none, .mv (.t 71)⟩,
               ⟨some 72, none, .ext (.t 69) 0⟩,
               ⟨some 73, none, .ext (.t 69) 1⟩,
               ⟨some 74, none, .ext (.t 69) 2⟩,
               ⟨some 18, none, .mv (.t 72)⟩,
               ⟨some 19, none, .mv (.t 73)⟩,
               ⟨some 20, none, .mv (.t 74)⟩] none)
              (.seq
               (.region [
                ⟨some 75, none, .mv (.t 3)⟩,
                ⟨some 76, none, .call 15 [(.t 75), (.c (.int .i64 2))]⟩,
                ⟨some 21, none, .mv (.t 76)⟩] none)
               (.seq
                (.region [
                 ⟨some 77, none, .mv (.t 2)⟩,
                 ⟨some 78, none, .bin .eql (.t 77) (.c (.int .i64 1))⟩,
                 ⟨some 79, none, .mv (.t 78)⟩,
                 ⟨some 80, some (79, true), .mv (.t 4)⟩,
                 ⟨some 81, some (79, true), .bin .eql (.t 80) (.c (.int .i64 0))⟩,
                 ⟨some 82, none, .pick (.t 79) (.t 81) (.c (.bool false))⟩,
                 ⟨some 83, none, .mv (.t 82)⟩,
                 ⟨some 84, some (83, true), .mv (.t 7)⟩,
                 ⟨some 85, some (83, true), .bin .eql (.t 84) (.c (.int .i64 0))⟩,
                 ⟨some 86, none, .pick (.t 83) (.t 85) (.c (.bool false))⟩,
                 ⟨some 87, none, .mv (.t 86)⟩,
                 ⟨some 88, some (87, true), .mv (.t 9)⟩,
                 ⟨some 89, none, .pick (.t 87) (.t 88) (.c (.bool false))⟩,
                 ⟨some 90, none, .mv (.t 89)⟩,
                 ⟨some 91, some (90, true), .mv (.t 10)⟩,
                 ⟨some 92, some (90, true), .un .not (.t 91)⟩,
                 ⟨some 93, none, .pick (.t 90) (.t 92) (.c (.bool false))⟩,
                 ⟨some 94, none, .mv (.t 93)⟩,
                 ⟨some 95, some (94, true), .mv (.t 11)⟩,
                 ⟨some 96, some (94, true), .bin .eql (.t 95) (.c (.int .i64 0))⟩,
                 ⟨some 97, none, .pick (.t 94) (.t 96) (.c (.bool false))⟩,
                 ⟨some 98, none, .mv (.t 97)⟩,
                 ⟨some 99, some (98, true), .mv (.t 13)⟩,
                 ⟨some 100, some (98, true), .bin .eql (.t 99) (.c (.int .i64 2))⟩,
                 ⟨some 101, none, .pick (.t 98) (.t 100) (.c (.bool false))⟩,
                 ⟨some 102, none, .mv (.t 101)⟩,
                 ⟨some 103, some (102, true), .load true 2 (.t 14)⟩,
                 ⟨some 104, some (102, true), .load true 2 (.t 6)⟩,
                 ⟨some 105, some (102, true), .call 27 [(.t 103), (.t 104)]⟩,
                 ⟨some 106, none, .pick (.t 102) (.t 105) (.c (.bool false))⟩,
                 ⟨some 107, none, .mv (.t 106)⟩,
                 ⟨some 108, some (107, true), .mv (.t 15)⟩,
                 ⟨some 109, none, .pick (.t 107) (.t 108) (.c (.bool false))⟩,
                 ⟨some 110, none, .mv (.t 109)⟩,
                 ⟨some 111, some (110, true), .mv (.t 16)⟩,
                 ⟨some 112, some (110, true), .bin .eql (.t 111) (.c (.int .i64 1))⟩,
                 ⟨some 113, none, .pick (.t 110) (.t 112) (.c (.bool false))⟩,
                 ⟨some 114, none, .mv (.t 113)⟩,
                 ⟨some 115, some (114, true), .load true 2 (.t 17)⟩,
                 ⟨some 116, some (114, true), .load true 2 (.t 5)⟩,
                 ⟨some 117, some (114, true), .call 27 [(.t 115), (.t 116)]⟩,
                 ⟨some 118, none, .pick (.t 114) (.t 117) (.c (.bool false))⟩,
                 ⟨some 119, none, .mv (.t 118)⟩,
                 ⟨some 120, some (119, true), .mv (.t 18)⟩,
                 ⟨some 121, some (119, true), .bin .eql (.t 120) (.c (.int .i64 2))⟩,
                 ⟨some 122, none, .pick (.t 119) (.t 121) (.c (.bool false))⟩,
                 ⟨some 123, none, .mv (.t 122)⟩,
                 ⟨some 124, some (123, true), .mv (.t 19)⟩,
                 ⟨some 125, some (123, true), .bin .eql (.t 124) (.c (.int .i64 1))⟩,
                 ⟨some 126, none, .pick (.t 123) (.t 125) (.c (.bool false))⟩,
                 ⟨some 127, none, .mv (.t 126)⟩,
                 ⟨some 128, some (127, true), .mv (.t 20)⟩,
                 ⟨some 129, some (127, true), .bin .eql (.t 128) (.c (.int .i64 0))⟩,
                 ⟨some 130, none, .pick (.t 127) (.t 129) (.c (.bool false))⟩,
                 ⟨some 131, none, .mv (.t 130)⟩,
                 ⟨some 132, some (131, true), .mv (.t 21)⟩,
                 ⟨some 133, none, .pick (.t 131) (.t 132) (.c (.bool false))⟩,
                 ⟨some 134, none, .mv (.t 133)⟩,
                 ⟨some 135, some (134, true), .mv (.t 3)⟩,
                 ⟨some 136, some (134, true), .call 25 [(.t 135)]⟩,
                 ⟨some 137, none, .pick (.t 134) (.t 136) (.c (.bool false))⟩,
                 ⟨some 138, none, .mv (.t 137)⟩,
                 ⟨some 139, some (138, true), .call 13 [(.c (.int .i64 5))]⟩,
                 ⟨some 140, some (138, true), .bin .eql (.t 139) (.c (.int .i64 2))⟩,
                 ⟨some 141, none, .pick (.t 138) (.t 140) (.c (.bool false))⟩,
                 ⟨some 142, none, .mv (.t 141)⟩,
                 ⟨some 143, some (142, true), .call 13 [(.c (.int .i64 4))]⟩,
                 ⟨some 144, some (142, true), .bin .eql (.t 143) (.c (.int .i64 0))⟩,
                 ⟨some 145, none, .pick (.t 142) (.t 144) (.c (.bool false))⟩,
                 ⟨some 146, none, .mv (.t 145)⟩,
                 ⟨some 147, some (146, true), .mv (.t 3)⟩,
                 ⟨some 148, some (146, true), .call 15 [(.t 147), (.c (.int .i64 1))]⟩,
                 ⟨some 149, some (146, true), .un .not (.t 148)⟩,
                 ⟨some 150, none, .pick (.t 146) (.t 149) (.c (.bool false))⟩,
                 ⟨some 0, none, .mv (.t 150)⟩] none)
                .ret))))))))))))))))⟩
theorem nf9_ok : compF Try.prog 9 = some nf9 := by kernel_rfl

/-- (comitia/comitialaw12.Go).attr -/
def nf10 : NF := ⟨27, [.cell 2 true 2],
 (.seq
 (.region [
  ⟨some 1, none, .box (.t 0)⟩,
  ⟨some 2, none, .new [.int .u32 0, .slc 0 true []]⟩] none)
 (.seq
  (.seq
   (.region [
    ⟨some 3, none, .faddr 2 (.t 1)⟩,
    ⟨some 4, none, .load false 1 (.t 3)⟩,
    ⟨some 5, none, .un .not (.t 4)⟩] none)
   (.cond (.t 5)
    (.seq
     (.region [
      ⟨some 6, none, .faddr 0 (.t 1)⟩,
      ⟨some 7, none, .faddr 0 (.t 6)⟩,
      ⟨some 8, none, .load false 1 (.t 7)⟩,
      ⟨some 9, none, .faddr 0 (.t 1)⟩,
      ⟨some 10, none, .faddr 1 (.t 9)⟩,
      ⟨some 11, none, .load false 1 (.t 10)⟩,
      ⟨some 12, none, .faddr 0 (.t 1)⟩,
      ⟨some 13, none, .faddr 1 (.t 12)⟩,
      ⟨some 14, none, .load false 1 (.t 13)⟩,
      ⟨some 15, none, .len .slc (.t 14)⟩,
      ⟨some 16, none, .mm false [(.t 15), (.c (.int .i64 8))]⟩,
      ⟨some 17, none, .slice (.slc 2) (.t 11) none (some (.t 16)) none⟩,
      ⟨some 18, none, .build [.int .u32 0, .slc 0 true []] [(0, 1, (.t 8)), (1, 1, (.t 17))]⟩,
      ⟨none, none, .store 2 (.t 2) (.t 18)⟩] (some (12, [0, 1, 3, 0, 8, 24, 0, 64, 192, 448, 960, 2040, 4095, 8191], 0)))
     .ret)
    .skip))
  (.seq
   (.region [
    ⟨some 19, none, .faddr 0 (.t 1)⟩,
    ⟨some 20, none, .faddr 0 (.t 19)⟩,
    ⟨some 21, none, .load false 1 (.t 20)⟩,
    ⟨some 22, none, .bin .rem (.t 21) (.c (.int .u32 5))⟩,
    ⟨some 23, none, .faddr 3 (.t 1)⟩,
    ⟨some 24, none, .load false 1 (.t 23)⟩,
    ⟨some 25, none, .call 29 [(.t 24)]⟩,
    ⟨some 26, none, .build [.int .u32 0, .slc 0 true []] [(0, 1, (.t 22)), (1, 1, (.t 25))]⟩,
    ⟨none, none, .store 2 (.t 2) (.t 26)⟩] (some (7, [0, 1, 3, 7, 0, 16, 48, 127, 255], 8192)))
   .ret)))⟩
theorem nf10_ok : compF Try.prog 10 = some nf10 := by kernel_rfl

/-- comitia/tally.New -/
def nf11 : NF := ⟨22, [.tmp 4, .tmp 5],
 (.seq
 (.region [
  ⟨some 4, none, .mv (.c (.nilp))⟩,
  ⟨some 5, none, .mv (.c (.int .i64 0))⟩] none)
 (.seq
  (.seq
   (.region [
    ⟨some 6, none, .mv (.t 0)⟩,
    ⟨some 7, none, .call 13 [(.t 6)]⟩,
    ⟨some 8, none, .bin .eql (.t 7) (.c (.int .i64 0))⟩,
    ⟨some 9, none, .mv (.t 8)⟩,
    ⟨some 10, some (9, false), .mv (.t 1)⟩,
    ⟨some 11, some (9, false), .bin .lss (.t 10) (.c (.int .i64 1))⟩,
    ⟨some 12, none, .pick (.t 9) (.c (.bool true)) (.t 11)⟩,
    ⟨some 13, none, .mv (.t 12)⟩,
    ⟨some 14, some (13, false), .mv (.t 1)⟩,
    ⟨some 15, some (13, false), .mv (.t 0)⟩,
    ⟨some 16, some (13, false), .bin .gtr (.t 14) (.t 15)⟩,
    ⟨some 17, none, .pick (.t 13) (.c (.bool true)) (.t 16)⟩] none)
   (.cond (.t 17)
    (.seq
     (.region [
      ⟨some 4, none, .mv (.c (.nilp))⟩,
      ⟨some 5, none, .mv (.c (.int .i64 1))⟩] none)
     .ret)
    .skip))
  (.seq
   (.region [
    ⟨some 18, none, .mv (.t 0)⟩,
    ⟨some 19, none, .mv (.t 1)⟩,
    ⟨some 20, none, .build [.int .i64 0, .int .i64 0, .bool false, .bool false, .bool false, .int .u32 0, .slc 0 true [], .bool false, .bool false, .bool false, .int .u32 0, .slc 0 true [], .bool false, .bool false, .bool false, .int .u32 0, .slc 0 true [], .bool false, .bool false, .bool false, .int .u32 0, .slc 0 true [], .bool false, .bool false, .bool false, .int .u32 0, .slc 0 true [], .bool false, .bool false, .bool false, .int .u32 0, .slc 0 true [], .bool false, .bool false, .bool false, .int .u32 0, .slc 0 true [], .bool false, .bool false, .bool false, .int .u32 0, .slc 0 true []] [(0, 1, (.t 18)), (1, 1, (.t 19))]⟩,
    ⟨some 21, none, .box (.t 20)⟩,
    ⟨some 4, none, .mv (.t 21)⟩,
    ⟨some 5, none, .mv (.c (.int .i64 0))⟩] none)
   .ret)))⟩
theorem nf11_ok : compF Try.prog 11 = some nf11 := by kernel_rfl

/-- comitia/comitiaref12.New -/
def nf12 : NF := ⟨21, [.tmp 4],
 (.seq
 (.region [
  ⟨some 4, none, .mv (.c (.nilp))⟩] none)
 (.seq
  (.seq
   (.region [
    ⟨some 5, none, .mv (.t 0)⟩,
    ⟨some 6, none, .call 14 [(.t 5)]⟩,
    ⟨some 7, none, .bin .eql (.t 6) (.c (.int .i64 0))⟩,
    ⟨some 8, none, .mv (.t 7)⟩,
    ⟨some 9, some (8, false), .mv (.t 1)⟩,
    ⟨some 10, some (8, false), .bin .lss (.t 9) (.c (.int .i64 1))⟩,
    ⟨some 11, none, .pick (.t 8) (.c (.bool true)) (.t 10)⟩,
    ⟨some 12, none, .mv (.t 11)⟩,
    ⟨some 13, some (12, false), .mv (.t 1)⟩,
    ⟨some 14, some (12, false), .mv (.t 0)⟩,
    ⟨some 15, some (12, false), .bin .gtr (.t 13) (.t 14)⟩,
    ⟨some 16, none, .pick (.t 12) (.c (.bool true)) (.t 15)⟩] none)
   (.cond (.t 16)
    (.seq
     (.region [
      ⟨some 4, none, .mv (.c (.nilp))⟩] none)
     .ret)
    .skip))
  (.seq
   (.region [
    ⟨some 17, none, .mv (.t 0)⟩,
    ⟨some 18, none, .mv (.t 1)⟩,
    ⟨some 19, none, .build [.int .i64 0, .int .i64 0, .slc 0 true [], .slc 0 true []] [(0, 1, (.t 17)), (1, 1, (.t 18))]⟩,
    ⟨some 20, none, .box (.t 19)⟩,
    ⟨some 4, none, .mv (.t 20)⟩] none)
   .ret)))⟩
theorem nf12_ok : compF Try.prog 12 = some nf12 := by kernel_rfl

/-- comitia/tally.Faults -/
def nf13 : NF := ⟨16, [.tmp 2],
 (.seq
 (.region [
  ⟨some 2, none, .mv (.c (.int .i64 0))⟩] none)
 (.seq
  (.seq
   (.region [
    ⟨some 3, none, .mv (.t 0)⟩,
    ⟨some 4, none, .bin .lss (.t 3) (.c (.int .i64 3))⟩,
    ⟨some 5, none, .mv (.t 4)⟩,
    ⟨some 6, some (5, false), .mv (.t 0)⟩,
    ⟨some 7, some (5, false), .bin .gtr (.t 6) (.c (.int .i64 7))⟩,
    ⟨some 8, none, .pick (.t 5) (.c (.bool true)) (.t 7)⟩,
    ⟨some 9, none, .mv (.t 8)⟩,
    ⟨some 10, some (9, false), .mv (.t 0)⟩,
    ⟨some 11, some (9, false), .bin .rem (.t 10) (.c (.int .i64 2))⟩,
    ⟨some 12, some (9, false), .bin .eql (.t 11) (.c (.int .i64 0))⟩,
    ⟨some 13, none, .pick (.t 9) (.c (.bool true)) (.t 12)⟩] none)
   (.cond (.t 13)
    (.seq
     (.region [
      ⟨some 2, none, .mv (.c (.int .i64 0))⟩] none)
     .ret)
    .skip))
  (.seq
   (.region [
    ⟨some 14, none, .mv (.t 0)⟩,
    ⟨some 15, none, .bin .quo (.t 14) (.c (.int .i64 2))⟩,
    ⟨some 2, none, .mv (.t 15)⟩] none)
   .ret)))⟩
theorem nf13_ok : compF Try.prog 13 = some nf13 := by kernel_rfl

/-- comitia/comitiaref12.Faults -/
def nf14 : NF := ⟨16, [.tmp 2],
 (.seq
 (.region [
  ⟨some 2, none, .mv (.c (.int .i64 0))⟩] none)
 (.seq
  (.seq
   (.region [
    ⟨some 3, none, .mv (.t 0)⟩,
    ⟨some 4, none, .bin .neq (.t 3) (.c (.int .i64 3))⟩,
    ⟨some 5, none, .mv (.t 4)⟩,
    ⟨some 6, some (5, true), .mv (.t 0)⟩,
    ⟨some 7, some (5, true), .bin .neq (.t 6) (.c (.int .i64 5))⟩,
    ⟨some 8, none, .pick (.t 5) (.t 7) (.c (.bool false))⟩,
    ⟨some 9, none, .mv (.t 8)⟩,
    ⟨some 10, some (9, true), .mv (.t 0)⟩,
    ⟨some 11, some (9, true), .bin .neq (.t 10) (.c (.int .i64 7))⟩,
    ⟨some 12, none, .pick (.t 9) (.t 11) (.c (.bool false))⟩] none)
   (.cond (.t 12)
    (.seq
     (.region [
      ⟨some 2, none, .mv (.c (.int .i64 0))⟩] none)
     .ret)
    .skip))
  (.seq
   (.region [
    ⟨some 13, none, .mv (.t 0)⟩,
    ⟨some 14, none, .bin .sub (.t 13) (.c (.int .i64 1))⟩,
    ⟨some 15, none, .bin .quo (.t 14) (.c (.int .i64 2))⟩,
    ⟨some 2, none, .mv (.t 15)⟩] none)
   .ret)))⟩
theorem nf14_ok : compF Try.prog 14 = some nf14 := by kernel_rfl

/-- (*comitia/tally.Tally).Acc -/
def nf15 : NF := ⟨24, [.tmp 4],
 (.seq
 (.region [
  ⟨some 4, none, .mv (.c (.bool false))⟩] none)
 (.seq
  (.seq
   (.region [
    ⟨some 5, none, .mv (.t 0)⟩,
    ⟨some 6, none, .mv (.t 1)⟩,
    ⟨some 7, none, .call 30 [(.t 5), (.t 6)]⟩,
    ⟨some 8, none, .un .not (.t 7)⟩,
    ⟨some 9, none, .mv (.t 8)⟩,
    ⟨some 10, some (9, false), .mv (.t 0)⟩,
    ⟨some 11, some (9, false), .mv (.t 1)⟩,
    ⟨some 12, some (9, false), .nchk (.t 10)⟩,
    ⟨some 13, some (9, false), .faddr 2 (.t 12)⟩,
    ⟨some 14, some (9, false), .iaddr (.arr 8 5) (.t 13) (.t 11)⟩,
    ⟨some 15, some (9, false), .faddr 2 (.t 14)⟩,
    ⟨some 16, some (9, false), .load false 1 (.t 15)⟩,
    ⟨some 17, none, .pick (.t 9) (.c (.bool true)) (.t 16)⟩] none)
   (.cond (.t 17)
    (.seq
     (.region [
      ⟨some 4, none, .mv (.c (.bool false))⟩] none)
     .ret)
    .skip))
  (.seq
   (.region [
    ⟨some 18, none, .mv (.t 0)⟩,
    ⟨some 19, none, .mv (.t 1)⟩,
    ⟨some 20, none, .nchk (.t 18)⟩,
    ⟨some 21, none, .faddr 2 (.t 20)⟩,
    ⟨some 22, none, .iaddr (.arr 8 5) (.t 21) (.t 19)⟩,
    ⟨some 23, none, .faddr 2 (.t 22)⟩,
    ⟨none, none, .store 1 (.t 23) (.c (.bool true))⟩] none)
   (.seq
    (.region [
     ⟨some 4, none, .mv (.c (.bool true))⟩] none)
    .ret))))⟩
theorem nf15_ok : compF Try.prog 15 = some nf15 := by kernel_rfl

/-- (*comitia/comitiaref12.Tally).Acc -/
def nf16 : NF := ⟨52, [.tmp 4],
 (.seq
 (.region [
  ⟨some 4, none, .mv (.c (.bool false))⟩] none)
 (.seq
  (.seq
   (.region [
    ⟨some 6, none, .mv (.t 1)⟩,
    ⟨some 7, none, .bin .lss (.t 6) (.c (.int .i64 1))⟩,
    ⟨some 8, none, .mv (.t 7)⟩,
    ⟨some 9, some (8, false), .mv (.t 1)⟩,
    ⟨some 10, some (8, false), .mv (.t 0)⟩,
    ⟨some 11, some (8, false), .nchk (.t 10)⟩,
    ⟨some 12, some (8, false), .faddr 0 (.t 11)⟩,
    ⟨some 13, some (8, false), .load false 1 (.t 12)⟩,
    ⟨some 14, some (8, false), .bin .gtr (.t 9) (.t 13)⟩,
    ⟨some 15, none, .pick (.t 8) (.c (.bool true)) (.t 14)⟩,
    ⟨some 16, none, .mv (.t 15)⟩,
    ⟨some 17, some (16, false), .mv (.t 1)⟩,
    ⟨some 18, some (16, false), .mv (.t 0)⟩,
    ⟨some 19, some (16, false), .nchk (.t 18)⟩,
    ⟨some 20, some (16, false), .faddr 1 (.t 19)⟩,
    ⟨some 21, some (16, false), .load false 1 (.t 20)⟩,
    ⟨some 22, some (16, false), .bin .eql (.t 17) (.t 21)⟩,
    ⟨some 23, none, .pick (.t 16) (.c (.bool true)) (.t 22)⟩] none)
   (.cond (.t 23)
    (.seq
     (.region [
      ⟨some 4, none, .mv (.c (.bool false))⟩] none)
     .ret)
    .skip))
  (.seq
   (.seq
    (.region [
     ⟨some 5, none, .mv (.c (.int .i64 0))⟩] none)
    (.block 0 (.loop (.seq
       (.seq
        (.region [
         ⟨some 24, none, .mv (.t 5)⟩,
         ⟨some 25, none, .mv (.t 0)⟩,
         ⟨some 26, none, .nchk (.t 25)⟩,
         ⟨some 27, none, .faddr 3 (.t 26)⟩,
         ⟨some 28, none, .load false 1 (.t 27)⟩,
         ⟨some 29, none, .len .slc (.t 28)⟩,
         ⟨some 30, none, .bin .lss (.t 24) (.t 29)⟩] none)
        (.cond (.t 30)
         .skip
         (.exit 0)))
       (.seq
        (.block 1 (.seq
          (.region [
           ⟨some 33, none, .mv (.t 0)⟩,
           ⟨some 34, none, .nchk (.t 33)⟩,
           ⟨some 35, none, .faddr 3 (.t 34)⟩,
           ⟨some 36, none, .load false 1 (.t 35)⟩,
           ⟨some 37, none, .mv (.t 5)⟩,
           ⟨some 38, none, .iaddr (.slc 1) (.t 36) (.t 37)⟩,
           ⟨some 39, none, .load false 1 (.t 38)⟩,
           ⟨some 40, none, .mv (.t 1)⟩,
           ⟨some 41, none, .bin .eql (.t 39) (.t 40)⟩] none)
          (.cond (.t 41)
           (.seq
            (.region [
             ⟨some 4, none, .mv (.c (.bool false))⟩] none)
            .ret)
           .skip)))
        (.region [
         ⟨some 31, none, .mv (.t 5)⟩,
         ⟨some 32, none, .bin .add (.t 31) (.c (.int .i64 1))⟩,
         ⟨some 5, none, .mv (.t 32)⟩] none))))))
   (.seq
    (.region [
     ⟨some 42, none, .mv (.t 0)⟩,
     ⟨some 43, none, .mv (.t 0)⟩,
     ⟨some 44, none, .nchk (.t 43)⟩,
     ⟨some 45, none, .faddr 3 (.t 44)⟩,
     ⟨some 46, none, .load false 1 (.t 45)⟩,
     ⟨some 47, none, .mv (.t 1)⟩,
     ⟨some 48, none, .bslc 1 1 [.int .i64 0] [(0, 1, (.t 47))]⟩,
     ⟨some 49, none, .app 1 8 (.t 46) (.t 48)⟩,
     ⟨some 50, none, .nchk (.t 42)⟩,
     ⟨some 51, none, .faddr 3 (.t 50)⟩,
     ⟨none, none, .store 1 (.t 51) (.t 49)⟩] none)
    (.seq
     (.region [
      ⟨some 4, none, .mv (.c (.bool true))⟩] none)
     .ret)))))⟩
theorem nf16_ok : compF Try.prog 16 = some nf16 := by kernel_rfl

/-- (*comitia/tally.Tally).Pre -/
def nf17 : NF := ⟨46, [.tmp 8],
 (.seq
 (.region [
  ⟨some 6, none, .box (.t 2)⟩,
  ⟨some 8, none, .mv (.c (.bool false))⟩] none)
 (.seq
  (.seq
   (.region [
    ⟨some 10, none, .mv (.t 0)⟩,
    ⟨some 11, none, .mv (.t 1)⟩,
    ⟨some 12, none, .call 30 [(.t 10), (.t 11)]⟩,
    ⟨some 13, none, .un .not (.t 12)⟩,
    ⟨some 14, none, .mv (.t 13)⟩,
    ⟨some 15, some (14, false), .mv (.t 0)⟩,
    ⟨some 16, some (14, false), .mv (.t 1)⟩,
    ⟨some 17, some (14, false), .nchk (.t 15)⟩,
    ⟨some 18, some (14, false), .faddr 2 (.t 17)⟩,
    ⟨some 19, some (14, false), .iaddr (.arr 8 5) (.t 18) (.t 16)⟩,
    ⟨some 20, some (14, false), .faddr 0 (.t 19)⟩,
    ⟨some 21, some (14, false), .load false 1 (.t 20)⟩,
    ⟨some 22, none, .pick (.t 14) (.c (.bool true)) (.t 21)⟩,
    ⟨some 23, none, .mv (.t 22)⟩,
    ⟨some 24, some (23, false), .load true 2 (.t 6)⟩,
    ⟨some 25, some (23, false), .call 31 [(.t 24)]⟩,
    ⟨some 26, some (23, false), .un .not (.t 25)⟩,
    ⟨some 27, none, .pick (.t 23) (.c (.bool true)) (.t 26)⟩] none)
   (.cond (.t 27)
    (.seq
     (.region [
      ⟨some 8, none, .mv (.c (.bool false))⟩] none)
     .ret)
    .skip))
  (.seq
   (.region [
    ⟨some 28, none, .mv (.t 0)⟩,
    ⟨some 29, none, .mv (.t 1)⟩,
    ⟨some 30, none, .nchk (.t 28)⟩,
    ⟨some 31, none, .faddr 2 (.t 30)⟩,
    ⟨some 32, none, .iaddr (.arr 8 5) (.t 31) (.t 29)⟩,
    ⟨some 9, none, .mv (.t 32)⟩] none)
   (.seq
    (.region [
     ⟨some 33, none, .mv (.t 9)⟩,
     ⟨some 34, none, .mv (.t 9)⟩,
     ⟨some 35, none, .mv (.t 9)⟩,
     ⟨some 36, none, .mv (.t 3)⟩,
     ⟨some 37, none, .load true 2 (.t 6)⟩,
     ⟨some 38, none, .build [.int .u32 0, .slc 0 true []] []⟩,
     ⟨some 39, none, .call 28 [(.t 37), (.t 38)]⟩,
     ⟨some 40, none, .nchk (.t 33)⟩,
     ⟨some 41, none, .faddr 0 (.t 40)⟩,
     ⟨none, none, .store 1 (.t 41) (.c (.bool true))⟩,
     ⟨some 42, none, .nchk (.t 34)⟩,
     ⟨some 43, none, .faddr 1 (.t 42)⟩,
     ⟨none, none, .store 1 (.t 43) (.t 36)⟩,
     ⟨some 44, none, .nchk (.t 35)⟩,
     ⟨some 45, none, .faddr 3 (.t 44)⟩,
     ⟨none, none, .store 2 (.t 45) (.t 39)⟩] none)
    (.seq
     (.region [
      ⟨some 8, none, .mv (.c (.bool true))⟩] none)
     .ret)))))⟩
theorem nf17_ok : compF Try.prog 17 = some nf17 := by kernel_rfl

/-- (*comitia/comitiaref12.Tally).Pre -/
def nf18 : NF := ⟨67, [.tmp 8],
 (.seq
 (.region [
  ⟨some 6, none, .box (.t 2)⟩,
  ⟨some 8, none, .mv (.c (.bool false))⟩] none)
 (.seq
  (.region [
   ⟨some 11, none, .load true 2 (.t 6)⟩,
   ⟨some 12, none, .call 32 [(.t 11)]⟩,
   ⟨some 9, none, .mv (.t 12)⟩] none)
  (.seq
   (.seq
    (.region [
     ⟨some 13, none, .mv (.t 1)⟩,
     ⟨some 14, none, .bin .lss (.t 13) (.c (.int .i64 1))⟩,
     ⟨some 15, none, .mv (.t 14)⟩,
     ⟨some 16, some (15, false), .mv (.t 1)⟩,
     ⟨some 17, some (15, false), .mv (.t 0)⟩,
     ⟨some 18, some (15, false), .nchk (.t 17)⟩,
     ⟨some 19, some (15, false), .faddr 0 (.t 18)⟩,
     ⟨some 20, some (15, false), .load false 1 (.t 19)⟩,
     ⟨some 21, some (15, false), .bin .gtr (.t 16) (.t 20)⟩,
     ⟨some 22, none, .pick (.t 15) (.c (.bool true)) (.t 21)⟩,
     ⟨some 23, none, .mv (.t 22)⟩,
     ⟨some 24, some (23, false), .mv (.t 1)⟩,
     ⟨some 25, some (23, false), .mv (.t 0)⟩,
     ⟨some 26, some (23, false), .nchk (.t 25)⟩,
     ⟨some 27, some (23, false), .faddr 1 (.t 26)⟩,
     ⟨some 28, some (23, false), .load false 1 (.t 27)⟩,
     ⟨some 29, some (23, false), .bin .eql (.t 24) (.t 28)⟩,
     ⟨some 30, none, .pick (.t 23) (.c (.bool true)) (.t 29)⟩,
     ⟨some 31, none, .mv (.t 30)⟩,
     ⟨some 32, some (31, false), .mv (.t 9)⟩,
     ⟨some 33, some (31, false), .un .not (.t 32)⟩,
     ⟨some 34, none, .pick (.t 31) (.c (.bool true)) (.t 33)⟩] none)
    (.cond (.t 34)
     (.seq
      (.region [
       ⟨some 8, none, .mv (.c (.bool false))⟩] none)
      .ret)
     .skip))
   (.seq
    (.seq
     (.region [
      ⟨some 10, none, .mv (.c (.int .i64 0))⟩] none)
     (.block 0 (.loop (.seq
        (.seq
         (.region [
          ⟨some 35, none, .mv (.t 10)⟩,
          ⟨some 36, none, .mv (.t 0)⟩,
          ⟨some 37, none, .nchk (.t 36)⟩,
          ⟨some 38, none, .faddr 2 (.t 37)⟩,
          ⟨some 39, none, .load false 1 (.t 38)⟩,
          ⟨some 40, none, .len .slc (.t 39)⟩,
          ⟨some 41, none, .bin .lss (.t 35) (.t 40)⟩] none)
         (.cond (.t 41)
          .skip
          (.exit 0)))
        (.seq
         (.block 1 (.seq
           (.region [
            ⟨some 44, none, .mv (.t 0)⟩,
            ⟨some 45, none, .nchk (.t 44)⟩,
            ⟨some 46, none, .faddr 2 (.t 45)⟩,
            ⟨some 47, none, .load false 1 (.t 46)⟩,
            ⟨some 48, none, .mv (.t 10)⟩,
            ⟨some 49, none, .iaddr (.slc 4) (.t 47) (.t 48)⟩,
            ⟨some 50, none, .faddr 0 (.t 49)⟩,
            ⟨some 51, none, .load false 1 (.t 50)⟩,
            ⟨some 52, none, .mv (.t 1)⟩,
            ⟨some 53, none, .bin .eql (.t 51) (.t 52)⟩] none)
           (.cond (.t 53)
            (.seq
             (.region [
              ⟨some 8, none, .mv (.c (.bool false))⟩] none)
             .ret)
            .skip)))
         (.region [
          ⟨some 42, none, .mv (.t 10)⟩,
          ⟨some 43, none, .bin .add (.t 42) (.c (.int .i64 1))⟩,
          ⟨some 10, none, .mv (.t 43)⟩] none))))))
    (.seq
     (.region [
      ⟨some 54, none, .mv (.t 0)⟩,
      ⟨some 55, none, .mv (.t 0)⟩,
      ⟨some 56, none, .nchk (.t 55)⟩,
      ⟨some 57, none, .faddr 2 (.t 56)⟩,
      ⟨some 58, none, .load false 1 (.t 57)⟩,
      ⟨some 59, none, .mv (.t 1)⟩,
      ⟨some 60, none, .load true 2 (.t 6)⟩,
      ⟨some 61, none, .mv (.t 3)⟩,
      ⟨some 62, none, .build [.int .i64 0, .int .u32 0, .slc 0 true [], .bool false] [(0, 1, (.t 59)), (1, 2, (.t 60)), (3, 1, (.t 61))]⟩,
      ⟨some 63, none, .bslc 4 1 [.int .i64 0, .int .u32 0, .slc 0 true [], .bool false] [(0, 4, (.t 62))]⟩,
      ⟨some 64, none, .app 4 48 (.t 58) (.t 63)⟩,
      ⟨some 65, none, .nchk (.t 54)⟩,
      ⟨some 66, none, .faddr 2 (.t 65)⟩,
      ⟨none, none, .store 1 (.t 66) (.t 64)⟩] (some (11, [0, 0, 2, 6, 14, 0, 0, 0, 224, 480, 1022, 2047, 4095, 8191], 0)))
     (.seq
      (.region [
       ⟨some 8, none, .mv (.c (.bool true))⟩] none)
      .ret))))))⟩
theorem nf18_ok : compF Try.prog 18 = some nf18 := by kernel_rfl

/-- comitia/comitialaw12.refAttr -/
def nf19 : NF := ⟨9, [.cell 2 true 2],
 (.seq
 (.region [
  ⟨some 1, none, .box (.t 0)⟩,
  ⟨some 2, none, .new [.int .u32 0, .slc 0 true []]⟩] none)
 (.seq
  (.region [
   ⟨some 3, none, .faddr 0 (.t 1)⟩,
   ⟨some 4, none, .load false 1 (.t 3)⟩,
   ⟨some 5, none, .faddr 1 (.t 1)⟩,
   ⟨some 6, none, .load false 1 (.t 5)⟩,
   ⟨some 7, none, .call 33 [(.t 6)]⟩,
   ⟨some 8, none, .build [.int .u32 0, .slc 0 true []] [(0, 1, (.t 4)), (1, 1, (.t 7))]⟩,
   ⟨none, none, .store 2 (.t 2) (.t 8)⟩] (some (5, [0, 1, 0, 4, 12, 31, 63], 512)))
  .ret))⟩
theorem nf19_ok : compF Try.prog 19 = some nf19 := by kernel_rfl

/-- (*comitia/tally.Tally).Decide -/
def nf20 : NF := ⟨60, [.tmp 8, .cell 9 true 2],
 (.seq
 (.region [
  ⟨some 7, none, .box (.t 3)⟩,
  ⟨some 8, none, .mv (.c (.int .i64 0))⟩,
  ⟨some 9, none, .new [.int .u32 0, .slc 0 true []]⟩] none)
 (.seq
  (.region [
   ⟨some 15, none, .mv (.t 0)⟩,
   ⟨some 16, none, .call 22 [(.t 15)]⟩,
   ⟨some 14, none, .mv (.t 16)⟩,
   ⟨some 17, none, .ext (.t 14) 0⟩,
   ⟨some 18, none, .ext (.t 14) 1⟩,
   ⟨some 19, none, .ext (.t 14) 2⟩,
   ⟨some 10, none, .mv (.t 17)⟩,
   ⟨some 11, none, .mv (.t 18)⟩,
   ⟨some 12, none, .mv (.t 19)⟩] none)
  (.seq
   (.region [
    ⟨some 20, none, .mv (.t 0)⟩,
    ⟨some 21, none, .nchk (.t 20)⟩,
    ⟨some 22, none, .faddr 0 (.t 21)⟩,
    ⟨some 23, none, .load false 1 (.t 22)⟩,
    ⟨some 24, none, .call 13 [(.t 23)]⟩,
    ⟨some 13, none, .mv (.t 24)⟩] none)
   (.seq
    (.block 0 (.seq
      (.region [
       ⟨some 26, none, .mv (.t 1)⟩,
       ⟨some 27, none, .mv (.t 26)⟩,
       ⟨some 28, some (27, true), .mv (.t 11)⟩,
       ⟨some 29, some (27, true), .mv (.t 13)⟩,
       ⟨some 30, some (27, true), .bin .mul (.c (.int .i64 2)) (.t 29)⟩,
       ⟨some 31, some (27, true), .bin .sub (.t 30) (.c (.int .i64 1))⟩,
       ⟨some 32, some (27, true), .bin .geq (.t 28) (.t 31)⟩,
       ⟨some 33, none, .pick (.t 27) (.t 32) (.c (.bool false))⟩,
       ⟨some 25, none, .mv (.t 33)⟩] none)
      (.cond (.t 25)
       (.seq
        (.region [
         ⟨some 34, none, .load true 2 (.t 7)⟩,
         ⟨some 35, none, .build [.int .u32 0, .slc 0 true []] []⟩,
         ⟨some 36, none, .call 28 [(.t 34), (.t 35)]⟩,
         ⟨some 8, none, .mv (.c (.int .i64 1))⟩,
         ⟨none, none, .store 2 (.t 9) (.t 36)⟩] none)
        .ret)
       (.seq
        (.region [
         ⟨some 38, none, .mv (.t 10)⟩,
         ⟨some 39, none, .mv (.t 13)⟩,
         ⟨some 40, none, .bin .geq (.t 38) (.t 39)⟩,
         ⟨some 41, none, .mv (.t 40)⟩,
         ⟨some 42, some (41, true), .mv (.t 1)⟩,
         ⟨some 43, some (41, true), .un .not (.t 42)⟩,
         ⟨some 44, some (41, true), .mv (.t 43)⟩,
         ⟨some 45, some (44, false), .mv (.t 2)⟩,
         ⟨some 46, some (41, true), .pick (.t 44) (.c (.bool true)) (.t 45)⟩,
         ⟨some 47, some (41, true), .mv (.t 46)⟩,
         ⟨some 48, some (47, false), .mv (.t 10)⟩,
         ⟨some 49, some (47, false), .mv (.t 11)⟩,
         ⟨some 50, some (47, false), .bin .sub (.t 48) (.t 49)⟩,
         ⟨some 51, some (47, false), .bin .geq (.t 50) (.c (.int .i64 2))⟩,
         ⟨some 52, some (41, true), .pick (.t 47) (.c (.bool true)) (.t 51)⟩,
         ⟨some 53, none, .pick (.t 41) (.t 52) (.c (.bool false))⟩,
         ⟨some 37, none, .mv (.t 53)⟩] none)
        (.cond (.t 37)
         (.seq
          (.region [
           ⟨some 54, none, .mv (.t 0)⟩,
           ⟨some 55, none, .load true 2 (.t 7)⟩,
           ⟨some 56, none, .build [.int .u32 0, .slc 0 true []] []⟩,
           ⟨some 57, none, .call 28 [(.t 55), (.t 56)]⟩,
           ⟨some 58, none, .call 34 [(.t 54), (.t 57)]⟩,
           ⟨some 8, none, .mv (.c (.int .i64 2))⟩,
           ⟨none, none, .store 2 (.t 9) (.t 58)⟩] none)
          .ret)
         .skip)))))
    (.seq
     (.region [
      ⟨some 59, none, .build [.int .u32 0, .slc 0 true []] []⟩,
      ⟨some 8, none, .mv (.c (.int .i64 0))⟩,
      ⟨none, none, .store 2 (.t 9) (.t 59)⟩] none)
     .ret)))))⟩
theorem nf20_ok : compF Try.prog 20 = some nf20 := by kernel_rfl

/-- (*comitia/comitiaref12.Tally).Decide -/
def nf21 : NF := ⟨75, [.tmp 8, .cell 9 true 2],
 (.seq
 (.region [
  ⟨some 7, none, .box (.t 3)⟩,
  ⟨some 8, none, .mv (.c (.int .i64 0))⟩,
  ⟨some 9, none, .new [.int .u32 0, .slc 0 true []]⟩] none)
 (.seq
  (.region [
   ⟨some 13, none, .mv (.t 0)⟩,
   ⟨some 14, none, .nchk (.t 13)⟩,
   ⟨some 15, none, .faddr 0 (.t 14)⟩,
   ⟨some 16, none, .load false 1 (.t 15)⟩,
   ⟨some 17, none, .call 14 [(.t 16)]⟩,
   ⟨some 10, none, .mv (.t 17)⟩] none)
  (.seq
   (.seq
    (.region [
     ⟨some 18, none, .mv (.t 1)⟩,
     ⟨some 19, none, .mv (.t 18)⟩,
     ⟨some 20, some (19, true), .mv (.t 0)⟩,
     ⟨some 21, some (19, true), .call 35 [(.t 20)]⟩,
     ⟨some 22, some (19, true), .mv (.t 10)⟩,
     ⟨some 23, some (19, true), .bin .mul (.c (.int .i64 2)) (.t 22)⟩,
     ⟨some 24, some (19, true), .bin .sub (.t 23) (.c (.int .i64 1))⟩,
     ⟨some 25, some (19, true), .bin .geq (.t 21) (.t 24)⟩,
     ⟨some 26, none, .pick (.t 19) (.t 25) (.c (.bool false))⟩] none)
    (.cond (.t 26)
     (.seq
      (.region [
       ⟨some 27, none, .load true 2 (.t 7)⟩,
       ⟨some 8, none, .mv (.c (.int .i64 1))⟩,
       ⟨none, none, .store 2 (.t 9) (.t 27)⟩] (some (2, [0, 0, 3], 0)))
      .ret)
     .skip))
   (.seq
    (.seq
     (.region [
      ⟨some 28, none, .mv (.t 0)⟩,
      ⟨some 29, none, .nchk (.t 28)⟩,
      ⟨some 30, none, .faddr 2 (.t 29)⟩,
      ⟨some 31, none, .load false 1 (.t 30)⟩,
      ⟨some 32, none, .len .slc (.t 31)⟩,
      ⟨some 33, none, .mv (.t 10)⟩,
      ⟨some 34, none, .bin .lss (.t 32) (.t 33)⟩,
      ⟨some 35, none, .mv (.t 34)⟩,
      ⟨some 36, some (35, false), .mv (.t 1)⟩,
      ⟨some 37, some (35, false), .mv (.t 36)⟩,
      ⟨some 38, some (37, true), .mv (.t 2)⟩,
      ⟨some 39, some (37, true), .un .not (.t 38)⟩,
      ⟨some 40, some (35, false), .pick (.t 37) (.t 39) (.c (.bool false))⟩,
      ⟨some 41, some (35, false), .mv (.t 40)⟩,
      ⟨some 42, some (41, true), .mv (.t 0)⟩,
      ⟨some 43, some (41, true), .nchk (.t 42)⟩,
      ⟨some 44, some (41, true), .faddr 2 (.t 43)⟩,
      ⟨some 45, some (41, true), .load false 1 (.t 44)⟩,
      ⟨some 46, some (41, true), .len .slc (.t 45)⟩,
      ⟨some 47, some (41, true), .mv (.t 0)⟩,
      ⟨some 48, some (41, true), .call 35 [(.t 47)]⟩,
      ⟨some 49, some (41, true), .bin .sub (.t 46) (.t 48)⟩,
      ⟨some 50, some (41, true), .bin .lss (.t 49) (.c (.int .i64 2))⟩,
      ⟨some 51, some (35, false), .pick (.t 41) (.t 50) (.c (.bool false))⟩,
      ⟨some 52, none, .pick (.t 35) (.c (.bool true)) (.t 51)⟩] (some (21, [0, 1, 3, 7, 15, 0, 63, 127, 255, 511, 1023, 2047, 4095, 8191, 16383, 32767, 65535, 131071, 262143, 16383, 540671, 2097151, 4194303, 8388607, 16777215], 2199023255552)))
     (.cond (.t 52)
      (.seq
       (.region [
        ⟨some 53, none, .build [.int .u32 0, .slc 0 true []] []⟩,
        ⟨some 8, none, .mv (.c (.int .i64 0))⟩,
        ⟨none, none, .store 2 (.t 9) (.t 53)⟩] none)
       .ret)
      .skip))
    (.seq
     (.region [
      ⟨some 54, none, .load true 2 (.t 7)⟩,
      ⟨some 11, none, .new [.int .u32 0, .slc 0 true []]⟩,
      ⟨none, none, .store 2 (.t 11) (.t 54)⟩] none)
     (.seq
      (.seq
       (.region [
        ⟨some 12, none, .mv (.c (.int .i64 0))⟩] none)
       (.block 0 (.loop (.seq
          (.seq
           (.region [
            ⟨some 55, none, .mv (.t 12)⟩,
            ⟨some 56, none, .mv (.t 0)⟩,
            ⟨some 57, none, .nchk (.t 56)⟩,
            ⟨some 58, none, .faddr 2 (.t 57)⟩,
            ⟨some 59, none, .load false 1 (.t 58)⟩,
            ⟨some 60, none, .len .slc (.t 59)⟩,
            ⟨some 61, none, .bin .lss (.t 55) (.t 60)⟩] none)
           (.cond (.t 61)
            .skip
            (.exit 0)))
          (.seq
           (.block 1 (.region [
             ⟨some 64, none, .load true 2 (.t 11)⟩,
             ⟨some 65, none, .mv (.t 0)⟩,
             ⟨some 66, none, .nchk (.t 65)⟩,
             ⟨some 67, none, .faddr 2 (.t 66)⟩,
             ⟨some 68, none, .load false 1 (.t 67)⟩,
             ⟨some 69, none, .mv (.t 12)⟩,
             ⟨some 70, none, .iaddr (.slc 4) (.t 68) (.t 69)⟩,
             ⟨some 71, none, .faddr 1 (.t 70)⟩,
             ⟨some 72, none, .load true 2 (.t 71)⟩,
             ⟨some 73, none, .call 36 [(.t 64), (.t 72)]⟩,
             ⟨none, none, .store 2 (.t 11) (.t 73)⟩] (some (9, [0, 0, 2, 6, 14, 0, 62, 126, 254, 511, 1023], 0))))
           (.region [
            ⟨some 62, none, .mv (.t 12)⟩,
            ⟨some 63, none, .bin .add (.t 62) (.c (.int .i64 1))⟩,
            ⟨some 12, none, .mv (.t 63)⟩] none))))))
      (.seq
       (.region [
        ⟨some 74, none, .load true 2 (.t 11)⟩,
        ⟨some 8, none, .mv (.c (.int .i64 2))⟩,
        ⟨none, none, .store 2 (.t 9) (.t 74)⟩] (some (2, [0, 0, 3], 0)))
       .ret)))))))⟩
theorem nf21_ok : compF Try.prog 21 = some nf21 := by kernel_rfl

/-- (*comitia/tally.Tally).Many -/
def nf22 : NF := ⟨35, [.cell 2 false 1, .cell 3 false 1, .cell 4 false 1],
 (.seq
 (.region [
  ⟨some 2, none, .new [.int .i64 0]⟩,
  ⟨some 3, none, .new [.int .i64 0]⟩,
  ⟨some 4, none, .new [.int .i64 0]⟩] none)
 (.seq
  (.region [
   ⟨some 5, none, .mv (.c (.fn 37 []))⟩] none)
  (.seq
   (.seq
    (.region [
     ⟨some 8, none, .mv (.t 0)⟩,
     ⟨some 9, none, .nchk (.t 8)⟩,
     ⟨some 10, none, .faddr 2 (.t 9)⟩,
     ⟨some 11, none, .load true 40 (.t 10)⟩,
     ⟨some 12, none, .mv (.c (.int .i64 0))⟩] none)
    (.block 0 (.loop (.seq
       (.region [
        ⟨some 13, none, .bin .lss (.t 12) (.c (.int .i64 8))⟩] none)
       (.seq
        (.cond (.t 13)
         .skip
         (.exit 0))
        (.seq
         (.block 1 (.seq
           (.region [
            ⟨some 14, none, .index (.arr 8 5) true (.t 11) (.t 12)⟩,
            ⟨some 7, none, .new [.bool false, .bool false, .bool false, .int .u32 0, .slc 0 true []]⟩,
            ⟨none, none, .store 5 (.t 7) (.t 14)⟩] none)
           (.seq
            (.region [
             ⟨some 15, none, .mv (.t 5)⟩,
             ⟨some 16, none, .faddr 0 (.t 7)⟩,
             ⟨some 17, none, .load false 1 (.t 16)⟩,
             ⟨some 18, none, .dyn (.t 15) [(.t 17), (.t 2)]⟩] none)
            (.seq
             (.region [
              ⟨some 19, none, .mv (.t 5)⟩,
              ⟨some 20, none, .faddr 0 (.t 7)⟩,
              ⟨some 21, none, .load false 1 (.t 20)⟩,
              ⟨some 22, none, .mv (.t 21)⟩,
              ⟨some 23, some (22, true), .faddr 1 (.t 7)⟩,
              ⟨some 24, some (22, true), .load false 1 (.t 23)⟩,
              ⟨some 25, none, .pick (.t 22) (.t 24) (.c (.bool false))⟩,
              ⟨some 26, none, .dyn (.t 19) [(.t 25), (.t 3)]⟩] none)
             (.region [
              ⟨some 27, none, .mv (.t 5)⟩,
              ⟨some 28, none, .faddr 2 (.t 7)⟩,
              ⟨some 29, none, .load false 1 (.t 28)⟩,
              ⟨some 30, none, .dyn (.t 27) [(.t 29), (.t 4)]⟩] none)))))
         (.region [
          ⟨some 31, none, .bin .add (.t 12) (.c (.int .i64 1))⟩,
          ⟨some 12, none, .mv (.t 31)⟩] none)))))))
   (.seq
    (.region [
     ⟨some 32, none, .load false 1 (.t 2)⟩,
     ⟨some 33, none, .load false 1 (.t 3)⟩,
     ⟨some 34, none, .load false 1 (.t 4)⟩,
     ⟨none, none, .store 1 (.t 2) (.t 32)⟩,
     ⟨none, none, .store 1 (.t 3) (.t 33)⟩,
     ⟨none, none, .store 1 (.t 4) (.t 34)⟩] none)
    .ret))))⟩
theorem nf22_ok : compF Try.prog 22 = some nf22 := by kernel_rfl

/-- (*comitia/comitiaref12.Tally).Many -/
def nf23 : NF := ⟨17, [.tmp 2, .tmp 3, .tmp 4],
 (.seq
 (.region [
  ⟨some 2, none, .mv (.c (.int .i64 0))⟩,
  ⟨some 3, none, .mv (.c (.int .i64 0))⟩,
  ⟨some 4, none, .mv (.c (.int .i64 0))⟩] none)
 (.seq
  (.region [
   ⟨some 5, none, .mv (.t 0)⟩,
   ⟨some 6, none, .nchk (.t 5)⟩,
   ⟨some 7, none, .faddr 2 (.t 6)⟩,
   ⟨some 8, none, .load false 1 (.t 7)⟩,
   ⟨some 9, none, .len .slc (.t 8)⟩,
   ⟨some 10, none, .mv (.t 0)⟩,
   ⟨some 11, none, .call 35 [(.t 10)]⟩,
   ⟨some 12, none, .mv (.t 0)⟩,
   ⟨some 13, none, .nchk (.t 12)⟩,
   ⟨some 14, none, .faddr 3 (.t 13)⟩,
   ⟨some 15, none, .load false 1 (.t 14)⟩,
   ⟨some 16, none, .len .slc (.t 15)⟩,
   ⟨some 2, none, .mv (.t 9)⟩,
   ⟨some 3, none, .mv (.t 11)⟩,
   ⟨some 4, none, .mv (.t 16)⟩] (some (14, [0, 1, 3, 7, 15, 0, 32, 0, 128, 384, 896, 1920, 127, 4223, 16383], 8192)))
  .ret))⟩
theorem nf23_ok : compF Try.prog 23 = some nf23 := by kernel_rfl

/-- comitia/comitiaref09.Same -/
def nf24 : NF := ⟨38, [.tmp 4],
 (.seq
 (.region [
  ⟨some 2, none, .box (.t 0)⟩,
  ⟨some 3, none, .box (.t 1)⟩,
  ⟨some 4, none, .mv (.c (.bool false))⟩] none)
 (.seq
  (.seq
   (.region [
    ⟨some 6, none, .faddr 0 (.t 2)⟩,
    ⟨some 7, none, .load false 1 (.t 6)⟩,
    ⟨some 8, none, .faddr 0 (.t 3)⟩,
    ⟨some 9, none, .load false 1 (.t 8)⟩,
    ⟨some 10, none, .bin .neq (.t 7) (.t 9)⟩,
    ⟨some 11, none, .mv (.t 10)⟩,
    ⟨some 12, some (11, false), .faddr 1 (.t 2)⟩,
    ⟨some 13, some (11, false), .load false 1 (.t 12)⟩,
    ⟨some 14, some (11, false), .len .slc (.t 13)⟩,
    ⟨some 15, some (11, false), .faddr 1 (.t 3)⟩,
    ⟨some 16, some (11, false), .load false 1 (.t 15)⟩,
    ⟨some 17, some (11, false), .len .slc (.t 16)⟩,
    ⟨some 18, some (11, false), .bin .neq (.t 14) (.t 17)⟩,
    ⟨some 19, none, .pick (.t 11) (.c (.bool true)) (.t 18)⟩] none)
   (.cond (.t 19)
    (.seq
     (.region [
      ⟨some 4, none, .mv (.c (.bool false))⟩] none)
     .ret)
    .skip))
  (.seq
   (.seq
    (.region [
     ⟨some 5, none, .mv (.c (.int .i64 0))⟩] none)
    (.block 0 (.loop (.seq
       (.seq
        (.region [
         ⟨some 20, none, .mv (.t 5)⟩,
         ⟨some 21, none, .faddr 1 (.t 2)⟩,
         ⟨some 22, none, .load false 1 (.t 21)⟩,
         ⟨some 23, none, .len .slc (.t 22)⟩,
         ⟨some 24, none, .bin .lss (.t 20) (.t 23)⟩] none)
        (.cond (.t 24)
         .skip
         (.exit 0)))
       (.seq
        (.block 1 (.seq
          (.region [
           ⟨some 27, none, .faddr 1 (.t 2)⟩,
           ⟨some 28, none, .load false 1 (.t 27)⟩,
           ⟨some 29, none, .mv (.t 5)⟩,
           ⟨some 30, none, .iaddr (.slc 2) (.t 28) (.t 29)⟩,
           ⟨some 31, none, .load true 2 (.t 30)⟩,
           ⟨some 32, none, .faddr 1 (.t 3)⟩,
           ⟨some 33, none, .load false 1 (.t 32)⟩,
           ⟨some 34, none, .mv (.t 5)⟩,
           ⟨some 35, none, .iaddr (.slc 2) (.t 33) (.t 34)⟩,
           ⟨some 36, none, .load true 2 (.t 35)⟩,
           ⟨some 37, none, .eq (.key ⟨true, [.int, .int]⟩) true (.t 31) (.t 36)⟩] (some (10, [0, 1, 0, 7, 15, 0, 32, 0, 224, 480, 1023], 0)))
          (.cond (.t 37)
           (.seq
            (.region [
             ⟨some 4, none, .mv (.c (.bool false))⟩] none)
            .ret)
           .skip)))
        (.region [
         ⟨some 25, none, .mv (.t 5)⟩,
         ⟨some 26, none, .bin .add (.t 25) (.c (.int .i64 1))⟩,
         ⟨some 5, none, .mv (.t 26)⟩] none))))))
   (.seq
    (.region [
     ⟨some 4, none, .mv (.c (.bool true))⟩] none)
    .ret))))⟩
theorem nf24_ok : compF Try.prog 24 = some nf24 := by kernel_rfl

/-- (*comitia/tally.Tally).Chosen -/
def nf25 : NF := ⟨19, [.tmp 2],
 (.seq
 (.region [
  ⟨some 2, none, .mv (.c (.bool false))⟩] none)
 (.seq
  (.region [
   ⟨some 7, none, .mv (.t 0)⟩,
   ⟨some 8, none, .call 22 [(.t 7)]⟩,
   ⟨some 6, none, .mv (.t 8)⟩,
   ⟨some 9, none, .ext (.t 6) 0⟩,
   ⟨some 10, none, .ext (.t 6) 1⟩,
   ⟨some 11, none, .ext (.t 6) 2⟩,
   ⟨some 3, none, .mv (.t 9)⟩,
   ⟨some 4, none, .mv (.t 10)⟩,
   ⟨some 5, none, .mv (.t 11)⟩] none)
  (.seq
   (.region [
    ⟨some 12, none, .mv (.t 5)⟩,
    ⟨some 13, none, .mv (.t 0)⟩,
    ⟨some 14, none, .nchk (.t 13)⟩,
    ⟨some 15, none, .faddr 0 (.t 14)⟩,
    ⟨some 16, none, .load false 1 (.t 15)⟩,
    ⟨some 17, none, .call 13 [(.t 16)]⟩,
    ⟨some 18, none, .bin .geq (.t 12) (.t 17)⟩,
    ⟨some 2, none, .mv (.t 18)⟩] none)
   .ret)))⟩
theorem nf25_ok : compF Try.prog 25 = some nf25 := by kernel_rfl

/-- (*comitia/comitiaref12.Tally).Chosen -/
def nf26 : NF := ⟨14, [.tmp 2],
 (.seq
 (.region [
  ⟨some 2, none, .mv (.c (.bool false))⟩] none)
 (.seq
  (.region [
   ⟨some 3, none, .mv (.t 0)⟩,
   ⟨some 4, none, .nchk (.t 3)⟩,
   ⟨some 5, none, .faddr 3 (.t 4)⟩,
   ⟨some 6, none, .load false 1 (.t 5)⟩,
   ⟨some 7, none, .len .slc (.t 6)⟩,
   ⟨some 8, none, .mv (.t 0)⟩,
   ⟨some 9, none, .nchk (.t 8)⟩,
   ⟨some 10, none, .faddr 0 (.t 9)⟩,
   ⟨some 11, none, .load false 1 (.t 10)⟩,
   ⟨some 12, none, .call 14 [(.t 11)]⟩,
   ⟨some 13, none, .bin .geq (.t 7) (.t 12)⟩,
   ⟨some 2, none, .mv (.t 13)⟩] (some (10, [0, 1, 3, 7, 15, 0, 32, 96, 224, 480, 1023, 2047], 524288)))
  .ret))⟩
theorem nf26_ok : compF Try.prog 26 = some nf26 := by kernel_rfl

/-- comitia/attr.Same -/
def nf27 : NF := ⟨38, [.tmp 4],
 (.seq
 (.region [
  ⟨some 2, none, .box (.t 0)⟩,
  ⟨some 3, none, .box (.t 1)⟩,
  ⟨some 4, none, .mv (.c (.bool false))⟩] none)
 (.scope (.seq
   (.region [
    ⟨some 5, none, .mv (.c (.int .i64 0))⟩] none)
   (.seq
    (.seq
     (.region [
      ⟨some 6, none, .faddr 0 (.t 2)⟩,
      ⟨some 7, none, .load false 1 (.t 6)⟩,
      ⟨some 8, none, .faddr 0 (.t 3)⟩,
      ⟨some 9, none, .load false 1 (.t 8)⟩,
      ⟨some 10, none, .bin .neq (.t 7) (.t 9)⟩,
      ⟨some 11, none, .mv (.t 10)⟩,
      ⟨some 12, some (11, false), .faddr 1 (.t 2)⟩,
      ⟨some 13, some (11, false), .load false 1 (.t 12)⟩,
      ⟨some 14, some (11, false), .len .slc (.t 13)⟩,
      ⟨some 15, some (11, false), .faddr 1 (.t 3)⟩,
      ⟨some 16, some (11, false), .load false 1 (.t 15)⟩,
      ⟨some 17, some (11, false), .len .slc (.t 16)⟩,
      ⟨some 18, some (11, false), .bin .neq (.t 14) (.t 17)⟩,
      ⟨some 19, none, .pick (.t 11) (.c (.bool true)) (.t 18)⟩] none)
     (.cond (.t 19)
      (.goto 0)
      .skip))
    (.seq
     (.label 1)
     (.seq
      (.seq
       (.region [
        ⟨some 20, none, .mv (.t 5)⟩,
        ⟨some 21, none, .faddr 1 (.t 2)⟩,
        ⟨some 22, none, .load false 1 (.t 21)⟩,
        ⟨some 23, none, .len .slc (.t 22)⟩,
        ⟨some 24, none, .bin .eql (.t 20) (.t 23)⟩] none)
       (.cond (.t 24)
        (.seq
         (.region [
          ⟨some 4, none, .mv (.c (.bool true))⟩] none)
         .ret)
        .skip))
      (.seq
       (.seq
        (.region [
         ⟨some 25, none, .faddr 1 (.t 2)⟩,
         ⟨some 26, none, .load false 1 (.t 25)⟩,
         ⟨some 27, none, .mv (.t 5)⟩,
         ⟨some 28, none, .iaddr (.slc 2) (.t 26) (.t 27)⟩,
         ⟨some 29, none, .load true 2 (.t 28)⟩,
         ⟨some 30, none, .faddr 1 (.t 3)⟩,
         ⟨some 31, none, .load false 1 (.t 30)⟩,
         ⟨some 32, none, .mv (.t 5)⟩,
         ⟨some 33, none, .iaddr (.slc 2) (.t 31) (.t 32)⟩,
         ⟨some 34, none, .load true 2 (.t 33)⟩,
         ⟨some 35, none, .eq (.key ⟨true, [.int, .int]⟩) false (.t 29) (.t 34)⟩] (some (10, [0, 1, 0, 7, 15, 0, 32, 0, 224, 480, 1023], 0)))
        (.cond (.t 35)
         (.seq
          (.region [
           ⟨some 36, none, .mv (.t 5)⟩,
           ⟨some 37, none, .bin .add (.t 36) (.c (.int .i64 1))⟩,
           ⟨some 5, none, .mv (.t 37)⟩] none)
          (.goto 1))
         .skip))
       (.seq
        (.label 0)
        (.seq
         (.region [
          ⟨some 4, none, .mv (.c (.bool false))⟩] none)
         .ret)))))))))⟩
theorem nf27_ok : compF Try.prog 27 = some nf27 := by kernel_rfl

/-- comitia/attr.Join -/
def nf28 : NF := ⟨16, [.cell 4 true 2],
 (.seq
 (.region [
  ⟨some 2, none, .box (.t 0)⟩,
  ⟨some 3, none, .box (.t 1)⟩,
  ⟨some 4, none, .new [.int .u32 0, .slc 0 true []]⟩] none)
 (.seq
  (.region [
   ⟨some 5, none, .faddr 0 (.t 2)⟩,
   ⟨some 6, none, .load false 1 (.t 5)⟩,
   ⟨some 7, none, .faddr 0 (.t 3)⟩,
   ⟨some 8, none, .load false 1 (.t 7)⟩,
   ⟨some 9, none, .mm true [(.t 6), (.t 8)]⟩,
   ⟨some 10, none, .faddr 1 (.t 2)⟩,
   ⟨some 11, none, .load false 1 (.t 10)⟩,
   ⟨some 12, none, .faddr 1 (.t 3)⟩,
   ⟨some 13, none, .load false 1 (.t 12)⟩,
   ⟨some 14, none, .call 38 [(.t 11), (.t 13)]⟩,
   ⟨some 15, none, .build [.int .u32 0, .slc 0 true []] [(0, 1, (.t 9)), (1, 1, (.t 14))]⟩,
   ⟨none, none, .store 2 (.t 4) (.t 15)⟩] (some (10, [0, 1, 0, 4, 15, 0, 32, 0, 128, 480, 1023, 2047], 524288)))
  .ret))⟩
theorem nf28_ok : compF Try.prog 28 = some nf28 := by kernel_rfl

/-- comitia/comitialaw12.few -/
def nf29 : NF := ⟨53, [.tmp 2],
 (.seq
 (.region [
  ⟨some 2, none, .mv (.c (.slc 0 true []))⟩] none)
 (.seq
  (.region [
   ⟨some 3, none, .new [.bool false, .bool false, .bool false, .bool false, .bool false, .bool false, .bool false, .bool false, .bool false, .bool false, .bool false, .bool false, .bool false, .bool false, .bool false, .bool false, .bool false, .bool false, .bool false, .bool false, .bool false, .bool false, .bool false, .bool false, .bool false, .bool false, .bool false, .bool false, .bool false, .bool false, .bool false, .bool false, .bool false, .bool false, .bool false, .bool false]⟩] none)
  (.seq
   (.seq
    (.region [
     ⟨some 4, none, .mv (.c (.int .i64 0))⟩] none)
    (.block 0 (.loop (.seq
       (.seq
        (.region [
         ⟨some 8, none, .mv (.t 4)⟩,
         ⟨some 9, none, .mv (.t 0)⟩,
         ⟨some 10, none, .len .slc (.t 9)⟩,
         ⟨some 11, none, .bin .lss (.t 8) (.t 10)⟩,
         ⟨some 12, none, .mv (.t 11)⟩,
         ⟨some 13, some (12, true), .mv (.t 4)⟩,
         ⟨some 14, some (12, true), .bin .lss (.t 13) (.c (.int .i64 20))⟩,
         ⟨some 15, none, .pick (.t 12) (.t 14) (.c (.bool false))⟩] none)
        (.cond (.t 15)
         .skip
         (.exit 0)))
       (.seq
        (.block 1 (.region [
          ⟨some 18, none, .mv (.t 0)⟩,
          ⟨some 19, none, .mv (.t 4)⟩,
          ⟨some 20, none, .iaddr (.slc 1) (.t 18) (.t 19)⟩,
          ⟨some 21, none, .load false 1 (.t 20)⟩,
          ⟨some 22, none, .bin .rem (.t 21) (.c (.int .u8 3))⟩,
          ⟨some 23, none, .mv (.t 0)⟩,
          ⟨some 24, none, .mv (.t 4)⟩,
          ⟨some 25, none, .iaddr (.slc 1) (.t 23) (.t 24)⟩,
          ⟨some 26, none, .load false 1 (.t 25)⟩,
          ⟨some 27, none, .bin .quo (.t 26) (.c (.int .u8 3))⟩,
          ⟨some 28, none, .bin .rem (.t 27) (.c (.int .u8 12))⟩,
          ⟨some 29, none, .iaddr (.arr 3 12) (.t 3) (.t 22)⟩,
          ⟨some 30, none, .iaddr (.arr 12 1) (.t 29) (.t 28)⟩,
          ⟨none, none, .store 1 (.t 30) (.c (.bool true))⟩] (some (12, [0, 0, 3, 7, 15, 0, 0, 96, 224, 480, 992, 31, 4095, 8191], 0))))
        (.region [
         ⟨some 16, none, .mv (.t 4)⟩,
         ⟨some 17, none, .bin .add (.t 16) (.c (.int .i64 1))⟩,
         ⟨some 4, none, .mv (.t 17)⟩] none))))))
   (.seq
    (.region [
     ⟨some 5, none, .mv (.c (.slc 0 true []))⟩] none)
    (.seq
     (.seq
      (.region [
       ⟨some 6, none, .mv (.c (.int .i64 0))⟩] none)
      (.block 2 (.loop (.seq
         (.seq
          (.region [
           ⟨some 31, none, .mv (.t 6)⟩,
           ⟨some 32, none, .bin .lss (.t 31) (.c (.int .i64 3))⟩] none)
          (.cond (.t 32)
           .skip
           (.exit 2)))
         (.seq
          (.block 3 (.seq
            (.region [
             ⟨some 7, none, .mv (.c (.int .i64 0))⟩] none)
            (.block 4 (.loop (.seq
               (.seq
                (.region [
                 ⟨some 35, none, .mv (.t 7)⟩,
                 ⟨some 36, none, .bin .lss (.t 35) (.c (.int .i64 12))⟩] none)
                (.cond (.t 36)
                 .skip
                 (.exit 4)))
               (.seq
                (.block 5 (.seq
                  (.region [
                   ⟨some 39, none, .mv (.t 6)⟩,
                   ⟨some 40, none, .mv (.t 7)⟩,
                   ⟨some 41, none, .iaddr (.arr 3 12) (.t 3) (.t 39)⟩,
                   ⟨some 42, none, .iaddr (.arr 12 1) (.t 41) (.t 40)⟩,
                   ⟨some 43, none, .load false 1 (.t 42)⟩] none)
                  (.cond (.t 43)
                   (.region [
                    ⟨some 44, none, .mv (.t 5)⟩,
                    ⟨some 45, none, .mv (.t 6)⟩,
                    ⟨some 46, none, .bin .add (.t 45) (.c (.int .i64 1))⟩,
                    ⟨some 47, none, .mv (.t 7)⟩,
                    ⟨some 48, none, .bin .add (.t 47) (.c (.int .i64 1))⟩,
                    ⟨some 49, none, .build [.int .i64 0, .int .i64 0] [(0, 1, (.t 46)), (1, 1, (.t 48))]⟩,
                    ⟨some 50, none, .bslc 2 1 [.int .i64 0, .int .i64 0] [(0, 2, (.t 49))]⟩,
                    ⟨some 51, none, .app 2 16 (.t 44) (.t 50)⟩,
                    ⟨some 5, none, .mv (.t 51)⟩] none)
                   .skip)))
                (.region [
                 ⟨some 37, none, .mv (.t 7)⟩,
                 ⟨some 38, none, .bin .add (.t 37) (.c (.int .i64 1))⟩,
                 ⟨some 7, none, .mv (.t 38)⟩] none)))))))
          (.region [
           ⟨some 33, none, .mv (.t 6)⟩,
           ⟨some 34, none, .bin .add (.t 33) (.c (.int .i64 1))⟩,
           ⟨some 6, none, .mv (.t 34)⟩] none))))))
     (.seq
      (.region [
       ⟨some 52, none, .mv (.t 5)⟩,
       ⟨some 2, none, .mv (.t 52)⟩] none)
      .ret))))))⟩
theorem nf29_ok : compF Try.prog 29 = some nf29 := by kernel_rfl

/-- (*comitia/tally.Tally).other -/
def nf30 : NF := ⟨23, [.tmp 4],
 (.seq
 (.region [
  ⟨some 4, none, .mv (.c (.bool false))⟩] none)
 (.seq
  (.region [
   ⟨some 5, none, .mv (.t 1)⟩,
   ⟨some 6, none, .bin .geq (.t 5) (.c (.int .i64 1))⟩,
   ⟨some 7, none, .mv (.t 6)⟩,
   ⟨some 8, some (7, true), .mv (.t 1)⟩,
   ⟨some 9, some (7, true), .mv (.t 0)⟩,
   ⟨some 10, some (7, true), .nchk (.t 9)⟩,
   ⟨some 11, some (7, true), .faddr 0 (.t 10)⟩,
   ⟨some 12, some (7, true), .load false 1 (.t 11)⟩,
   ⟨some 13, some (7, true), .bin .leq (.t 8) (.t 12)⟩,
   ⟨some 14, none, .pick (.t 7) (.t 13) (.c (.bool false))⟩,
   ⟨some 15, none, .mv (.t 14)⟩,
   ⟨some 16, some (15, true), .mv (.t 1)⟩,
   ⟨some 17, some (15, true), .mv (.t 0)⟩,
   ⟨some 18, some (15, true), .nchk (.t 17)⟩,
   ⟨some 19, some (15, true), .faddr 1 (.t 18)⟩,
   ⟨some 20, some (15, true), .load false 1 (.t 19)⟩,
   ⟨some 21, some (15, true), .bin .neq (.t 16) (.t 20)⟩,
   ⟨some 22, none, .pick (.t 15) (.t 21) (.c (.bool false))⟩,
   ⟨some 4, none, .mv (.t 22)⟩] none)
  .ret))⟩
theorem nf30_ok : compF Try.prog 30 = some nf30 := by kernel_rfl

/-- comitia/attr.Right -/
def nf31 : NF := ⟨12, [.tmp 2],
 (.seq
 (.region [
  ⟨some 1, none, .box (.t 0)⟩,
  ⟨some 2, none, .mv (.c (.bool false))⟩] none)
 (.seq
  (.region [
   ⟨some 3, none, .faddr 1 (.t 1)⟩,
   ⟨some 4, none, .load false 1 (.t 3)⟩,
   ⟨some 5, none, .len .slc (.t 4)⟩,
   ⟨some 6, none, .bin .leq (.t 5) (.c (.int .i64 400))⟩,
   ⟨some 7, none, .mv (.t 6)⟩,
   ⟨some 8, some (7, true), .faddr 1 (.t 1)⟩,
   ⟨some 9, some (7, true), .load false 1 (.t 8)⟩,
   ⟨some 10, some (7, true), .call 39 [(.t 9)]⟩,
   ⟨some 11, none, .pick (.t 7) (.t 10) (.c (.bool false))⟩,
   ⟨some 2, none, .mv (.t 11)⟩] none)
  .ret))⟩
theorem nf31_ok : compF Try.prog 31 = some nf31 := by kernel_rfl

/-- comitia/comitiaref09.Right -/
def nf32 : NF := ⟨14, [.tmp 2],
 (.seq
 (.region [
  ⟨some 1, none, .box (.t 0)⟩,
  ⟨some 2, none, .mv (.c (.bool false))⟩] none)
 (.seq
  (.region [
   ⟨some 4, none, .faddr 1 (.t 1)⟩,
   ⟨some 5, none, .load false 1 (.t 4)⟩,
   ⟨some 6, none, .call 40 [(.t 5)]⟩,
   ⟨some 3, none, .mv (.t 6)⟩] none)
  (.seq
   (.region [
    ⟨some 7, none, .mv (.t 3)⟩,
    ⟨some 8, none, .mv (.t 7)⟩,
    ⟨some 9, some (8, true), .faddr 1 (.t 1)⟩,
    ⟨some 10, some (8, true), .load false 1 (.t 9)⟩,
    ⟨some 11, some (8, true), .len .slc (.t 10)⟩,
    ⟨some 12, some (8, true), .bin .leq (.t 11) (.c (.int .i64 400))⟩,
    ⟨some 13, none, .pick (.t 8) (.t 12) (.c (.bool false))⟩,
    ⟨some 2, none, .mv (.t 13)⟩] none)
   .ret)))⟩
theorem nf32_ok : compF Try.prog 32 = some nf32 := by kernel_rfl

/-- comitia/comitialaw12.refSet -/
def nf33 : NF := ⟨26, [.tmp 2],
 (.seq
 (.region [
  ⟨some 2, none, .mv (.c (.slc 0 true []))⟩] none)
 (.seq
  (.region [
   ⟨some 3, none, .mv (.c (.slc 0 true []))⟩] none)
  (.seq
   (.seq
    (.region [
     ⟨some 4, none, .mv (.c (.int .i64 0))⟩] none)
    (.block 0 (.loop (.seq
       (.seq
        (.region [
         ⟨some 5, none, .mv (.t 4)⟩,
         ⟨some 6, none, .mv (.t 0)⟩,
         ⟨some 7, none, .len .slc (.t 6)⟩,
         ⟨some 8, none, .bin .lss (.t 5) (.t 7)⟩] none)
        (.cond (.t 8)
         .skip
         (.exit 0)))
       (.seq
        (.block 1 (.region [
          ⟨some 11, none, .mv (.t 3)⟩,
          ⟨some 12, none, .mv (.t 0)⟩,
          ⟨some 13, none, .mv (.t 4)⟩,
          ⟨some 14, none, .iaddr (.slc 2) (.t 12) (.t 13)⟩,
          ⟨some 15, none, .faddr 0 (.t 14)⟩,
          ⟨some 16, none, .load false 1 (.t 15)⟩,
          ⟨some 17, none, .mv (.t 0)⟩,
          ⟨some 18, none, .mv (.t 4)⟩,
          ⟨some 19, none, .iaddr (.slc 2) (.t 17) (.t 18)⟩,
          ⟨some 20, none, .faddr 1 (.t 19)⟩,
          ⟨some 21, none, .load false 1 (.t 20)⟩,
          ⟨some 22, none, .build [.int .i64 0, .int .i64 0] [(0, 1, (.t 16)), (1, 1, (.t 21))]⟩,
          ⟨some 23, none, .bslc 2 1 [.int .i64 0, .int .i64 0] [(0, 2, (.t 22))]⟩,
          ⟨some 24, none, .app 2 16 (.t 11) (.t 23)⟩,
          ⟨some 3, none, .mv (.t 24)⟩] (some (13, [0, 0, 0, 6, 14, 30, 0, 0, 192, 448, 960, 2046, 4094, 8191, 16383], 0))))
        (.region [
         ⟨some 9, none, .mv (.t 4)⟩,
         ⟨some 10, none, .bin .add (.t 9) (.c (.int .i64 1))⟩,
         ⟨some 4, none, .mv (.t 10)⟩] none))))))
   (.seq
    (.region [
     ⟨some 25, none, .mv (.t 3)⟩,
     ⟨some 2, none, .mv (.t 25)⟩] none)
    .ret))))⟩
theorem nf33_ok : compF Try.prog 33 = some nf33 := by kernel_rfl

/-- (*comitia/tally.Tally).joined -/
def nf34 : NF := ⟨31, [.cell 4 true 2],
 (.seq
 (.region [
  ⟨some 3, none, .box (.t 1)⟩,
  ⟨some 4, none, .new [.int .u32 0, .slc 0 true []]⟩] none)
 (.scope (.seq
   (.region [
    ⟨some 5, none, .mv (.c (.int .i64 0))⟩] none)
   (.seq
    (.label 0)
    (.seq
     (.seq
      (.region [
       ⟨some 6, none, .mv (.t 5)⟩,
       ⟨some 7, none, .bin .add (.t 6) (.c (.int .i64 1))⟩,
       ⟨some 5, none, .mv (.t 7)⟩] none)
      (.seq
       (.region [
        ⟨some 8, none, .mv (.t 5)⟩,
        ⟨some 9, none, .mv (.t 0)⟩,
        ⟨some 10, none, .nchk (.t 9)⟩,
        ⟨some 11, none, .faddr 0 (.t 10)⟩,
        ⟨some 12, none, .load false 1 (.t 11)⟩,
        ⟨some 13, none, .bin .gtr (.t 8) (.t 12)⟩] none)
       (.cond (.t 13)
        (.seq
         (.region [
          ⟨some 14, none, .load true 2 (.t 3)⟩,
          ⟨none, none, .store 2 (.t 4) (.t 14)⟩] none)
         .ret)
        .skip)))
     (.seq
      (.seq
       (.region [
        ⟨some 15, none, .mv (.t 0)⟩,
        ⟨some 16, none, .mv (.t 5)⟩,
        ⟨some 17, none, .nchk (.t 15)⟩,
        ⟨some 18, none, .faddr 2 (.t 17)⟩,
        ⟨some 19, none, .iaddr (.arr 8 5) (.t 18) (.t 16)⟩,
        ⟨some 20, none, .faddr 0 (.t 19)⟩,
        ⟨some 21, none, .load false 1 (.t 20)⟩] none)
       (.cond (.t 21)
        (.region [
         ⟨some 22, none, .load true 2 (.t 3)⟩,
         ⟨some 23, none, .mv (.t 0)⟩,
         ⟨some 24, none, .mv (.t 5)⟩,
         ⟨some 25, none, .nchk (.t 23)⟩,
         ⟨some 26, none, .faddr 2 (.t 25)⟩,
         ⟨some 27, none, .iaddr (.arr 8 5) (.t 26) (.t 24)⟩,
         ⟨some 28, none, .faddr 3 (.t 27)⟩,
         ⟨some 29, none, .load true 2 (.t 28)⟩,
         ⟨some 30, none, .call 28 [(.t 22), (.t 29)]⟩,
         ⟨none, none, .store 2 (.t 3) (.t 30)⟩] (some (8, [0, 0, 0, 2, 10, 30, 62, 126, 255, 511], 0)))
        .skip))
      (.goto 0)))))))⟩
theorem nf34_ok : compF Try.prog 34 = some nf34 := by kernel_rfl

/-- (*comitia/comitiaref12.Tally).own -/
def nf35 : NF := ⟨25, [.tmp 2],
 (.seq
 (.region [
  ⟨some 2, none, .mv (.c (.int .i64 0))⟩] none)
 (.seq
  (.region [
   ⟨some 3, none, .mv (.c (.int .i64 0))⟩] none)
  (.seq
   (.seq
    (.region [
     ⟨some 4, none, .mv (.c (.int .i64 0))⟩] none)
    (.block 0 (.loop (.seq
       (.seq
        (.region [
         ⟨some 5, none, .mv (.t 4)⟩,
         ⟨some 6, none, .mv (.t 0)⟩,
         ⟨some 7, none, .nchk (.t 6)⟩,
         ⟨some 8, none, .faddr 2 (.t 7)⟩,
         ⟨some 9, none, .load false 1 (.t 8)⟩,
         ⟨some 10, none, .len .slc (.t 9)⟩,
         ⟨some 11, none, .bin .lss (.t 5) (.t 10)⟩] none)
        (.cond (.t 11)
         .skip
         (.exit 0)))
       (.seq
        (.block 1 (.seq
          (.region [
           ⟨some 14, none, .mv (.t 0)⟩,
           ⟨some 15, none, .nchk (.t 14)⟩,
           ⟨some 16, none, .faddr 2 (.t 15)⟩,
           ⟨some 17, none, .load false 1 (.t 16)⟩,
           ⟨some 18, none, .mv (.t 4)⟩,
           ⟨some 19, none, .iaddr (.slc 4) (.t 17) (.t 18)⟩,
           ⟨some 20, none, .faddr 3 (.t 19)⟩,
           ⟨some 21, none, .load false 1 (.t 20)⟩] none)
          (.cond (.t 21)
           (.region [
            ⟨some 22, none, .mv (.t 3)⟩,
            ⟨some 23, none, .bin .add (.t 22) (.c (.int .i64 1))⟩,
            ⟨some 3, none, .mv (.t 23)⟩] none)
           .skip)))
        (.region [
         ⟨some 12, none, .mv (.t 4)⟩,
         ⟨some 13, none, .bin .add (.t 12) (.c (.int .i64 1))⟩,
         ⟨some 4, none, .mv (.t 13)⟩] none))))))
   (.seq
    (.region [
     ⟨some 24, none, .mv (.t 3)⟩,
     ⟨some 2, none, .mv (.t 24)⟩] none)
    .ret))))⟩
theorem nf35_ok : compF Try.prog 35 = some nf35 := by kernel_rfl

/-- comitia/comitiaref09.Join -/
def nf36 : NF := ⟨16, [.cell 4 true 2],
 (.seq
 (.region [
  ⟨some 2, none, .box (.t 0)⟩,
  ⟨some 3, none, .box (.t 1)⟩,
  ⟨some 4, none, .new [.int .u32 0, .slc 0 true []]⟩] none)
 (.seq
  (.region [
   ⟨some 5, none, .faddr 0 (.t 2)⟩,
   ⟨some 6, none, .load false 1 (.t 5)⟩,
   ⟨some 7, none, .faddr 0 (.t 3)⟩,
   ⟨some 8, none, .load false 1 (.t 7)⟩,
   ⟨some 9, none, .mm true [(.t 6), (.t 8)]⟩,
   ⟨some 10, none, .faddr 1 (.t 2)⟩,
   ⟨some 11, none, .load false 1 (.t 10)⟩,
   ⟨some 12, none, .faddr 1 (.t 3)⟩,
   ⟨some 13, none, .load false 1 (.t 12)⟩,
   ⟨some 14, none, .call 41 [(.t 11), (.t 13)]⟩,
   ⟨some 15, none, .build [.int .u32 0, .slc 0 true []] [(0, 1, (.t 9)), (1, 1, (.t 14))]⟩,
   ⟨none, none, .store 2 (.t 4) (.t 15)⟩] (some (10, [0, 1, 0, 4, 15, 0, 32, 0, 128, 480, 1023, 2047], 524288)))
  .ret))⟩
theorem nf36_ok : compF Try.prog 36 = some nf36 := by kernel_rfl

/-- (*comitia/tally.Tally).Many$1 -/
def nf37 : NF := ⟨10, [],
 (.seq
 (.region [
  ⟨some 4, none, .mv (.t 0)⟩] none)
 (.cond (.t 4)
  (.region [
   ⟨some 5, none, .mv (.t 1)⟩,
   ⟨some 6, none, .nchk (.t 5)⟩,
   ⟨some 7, none, .load false 1 (.t 6)⟩,
   ⟨some 8, none, .bin .add (.t 7) (.c (.int .i64 1))⟩,
   ⟨some 9, none, .nchk (.t 5)⟩,
   ⟨none, none, .store 1 (.t 9) (.t 8)⟩] none)
  .skip))⟩
theorem nf37_ok : compF Try.prog 37 = some nf37 := by kernel_rfl

/-- comitia/deps.Join -/
def nf38 : NF := ⟨8, [.tmp 4],
 (.seq
 (.region [
  ⟨some 4, none, .mv (.c (.slc 0 true []))⟩] none)
 (.seq
  (.region [
   ⟨some 5, none, .mv (.t 0)⟩,
   ⟨some 6, none, .mv (.t 1)⟩,
   ⟨some 7, none, .call 42 [(.t 5), (.t 6), (.c (.bool true))]⟩,
   ⟨some 4, none, .mv (.t 7)⟩] none)
  .ret))⟩
theorem nf38_ok : compF Try.prog 38 = some nf38 := by kernel_rfl

/-- comitia/deps.Set -/
def nf39 : NF := ⟨30, [.tmp 2],
 (.seq
 (.region [
  ⟨some 2, none, .mv (.c (.bool false))⟩] none)
 (.seq
  (.seq
   (.region [
    ⟨some 5, none, .mv (.t 0)⟩,
    ⟨some 6, none, .len .slc (.t 5)⟩,
    ⟨some 7, none, .mv (.c (.int .i64 0))⟩] none)
   (.block 0 (.loop (.seq
      (.region [
       ⟨some 8, none, .bin .lss (.t 7) (.t 6)⟩] none)
      (.seq
       (.cond (.t 8)
        .skip
        (.exit 0))
       (.seq
        (.block 1 (.seq
          (.region [
           ⟨some 9, none, .mv (.t 7)⟩,
           ⟨some 10, none, .iaddr (.slc 2) (.t 5) (.t 7)⟩,
           ⟨some 11, none, .load true 2 (.t 10)⟩,
           ⟨some 4, none, .new [.int .i64 0, .int .i64 0]⟩,
           ⟨some 3, none, .mv (.t 9)⟩,
           ⟨none, none, .store 2 (.t 4) (.t 11)⟩] none)
          (.seq
           (.region [
            ⟨some 12, none, .load true 2 (.t 4)⟩,
            ⟨some 13, none, .call 43 [(.t 12)]⟩,
            ⟨some 14, none, .un .not (.t 13)⟩,
            ⟨some 15, none, .mv (.t 14)⟩,
            ⟨some 16, some (15, false), .mv (.t 3)⟩,
            ⟨some 17, some (15, false), .bin .gtr (.t 16) (.c (.int .i64 0))⟩,
            ⟨some 18, some (15, false), .mv (.t 17)⟩,
            ⟨some 19, some (18, true), .mv (.t 0)⟩,
            ⟨some 20, some (18, true), .mv (.t 3)⟩,
            ⟨some 21, some (18, true), .bin .sub (.t 20) (.c (.int .i64 1))⟩,
            ⟨some 22, some (18, true), .iaddr (.slc 2) (.t 19) (.t 21)⟩,
            ⟨some 23, some (18, true), .load true 2 (.t 22)⟩,
            ⟨some 24, some (18, true), .load true 2 (.t 4)⟩,
            ⟨some 25, some (18, true), .call 44 [(.t 23), (.t 24)]⟩,
            ⟨some 26, some (18, true), .bin .geq (.t 25) (.c (.int .i64 0))⟩,
            ⟨some 27, some (15, false), .pick (.t 18) (.t 26) (.c (.bool false))⟩,
            ⟨some 28, none, .pick (.t 15) (.c (.bool true)) (.t 27)⟩] (some (13, [0, 1, 3, 7, 15, 31, 63, 127, 127, 383, 1023, 2047, 127, 8191, 16383, 32767, 65535], 8)))
           (.cond (.t 28)
            (.seq
             (.region [
              ⟨some 2, none, .mv (.c (.bool false))⟩] none)
             .ret)
            .skip))))
        (.region [
         ⟨some 29, none, .bin .add (.t 7) (.c (.int .i64 1))⟩,
         ⟨some 7, none, .mv (.t 29)⟩] none)))))))
  (.seq
   (.region [
    ⟨some 2, none, .mv (.c (.bool true))⟩] none)
   .ret)))⟩
theorem nf39_ok : compF Try.prog 39 = some nf39 := by kernel_rfl

/-- comitia/comitiaref08.Set -/
def nf40 : NF := ⟨33, [.tmp 2],
 (.seq
 (.region [
  ⟨some 2, none, .mv (.c (.bool false))⟩] none)
 (.seq
  (.seq
   (.region [
    ⟨some 3, none, .mv (.c (.int .i64 0))⟩] none)
   (.block 0 (.loop (.seq
      (.seq
       (.region [
        ⟨some 4, none, .mv (.t 3)⟩,
        ⟨some 5, none, .mv (.t 0)⟩,
        ⟨some 6, none, .len .slc (.t 5)⟩,
        ⟨some 7, none, .bin .lss (.t 4) (.t 6)⟩] none)
       (.cond (.t 7)
        .skip
        (.exit 0)))
      (.seq
       (.block 1 (.seq
         (.region [
          ⟨some 10, none, .mv (.t 0)⟩,
          ⟨some 11, none, .mv (.t 3)⟩,
          ⟨some 12, none, .iaddr (.slc 2) (.t 10) (.t 11)⟩,
          ⟨some 13, none, .load true 2 (.t 12)⟩,
          ⟨some 14, none, .call 45 [(.t 13)]⟩,
          ⟨some 15, none, .un .not (.t 14)⟩,
          ⟨some 16, none, .mv (.t 15)⟩,
          ⟨some 17, some (16, false), .mv (.t 3)⟩,
          ⟨some 18, some (16, false), .bin .gtr (.t 17) (.c (.int .i64 0))⟩,
          ⟨some 19, some (16, false), .mv (.t 18)⟩,
          ⟨some 20, some (19, true), .mv (.t 0)⟩,
          ⟨some 21, some (19, true), .mv (.t 3)⟩,
          ⟨some 22, some (19, true), .bin .sub (.t 21) (.c (.int .i64 1))⟩,
          ⟨some 23, some (19, true), .iaddr (.slc 2) (.t 20) (.t 22)⟩,
          ⟨some 24, some (19, true), .load true 2 (.t 23)⟩,
          ⟨some 25, some (19, true), .mv (.t 0)⟩,
          ⟨some 26, some (19, true), .mv (.t 3)⟩,
          ⟨some 27, some (19, true), .iaddr (.slc 2) (.t 25) (.t 26)⟩,
          ⟨some 28, some (19, true), .load true 2 (.t 27)⟩,
          ⟨some 29, some (19, true), .call 46 [(.t 24), (.t 28)]⟩,
          ⟨some 30, some (19, true), .bin .geq (.t 29) (.c (.int .i64 0))⟩,
          ⟨some 31, some (16, false), .pick (.t 19) (.t 30) (.c (.bool false))⟩,
          ⟨some 32, none, .pick (.t 16) (.c (.bool true)) (.t 31)⟩] (some (19, [0, 0, 3, 7, 15, 31, 63, 127, 255, 511, 1023, 1023, 3071, 8191, 16383, 1023, 1023, 99327, 230399, 524287, 1048575, 2097151, 4194303], 512)))
         (.cond (.t 32)
          (.seq
           (.region [
            ⟨some 2, none, .mv (.c (.bool false))⟩] none)
           .ret)
          .skip)))
       (.region [
        ⟨some 8, none, .mv (.t 3)⟩,
        ⟨some 9, none, .bin .add (.t 8) (.c (.int .i64 1))⟩,
        ⟨some 3, none, .mv (.t 9)⟩] none))))))
  (.seq
   (.region [
    ⟨some 2, none, .mv (.c (.bool true))⟩] none)
   .ret)))⟩
theorem nf40_ok : compF Try.prog 40 = some nf40 := by kernel_rfl

/-- comitia/comitiaref08.Join -/
def nf41 : NF := ⟨22, [.tmp 4],
 (.seq
 (.region [
  ⟨some 4, none, .mv (.c (.slc 0 true []))⟩] none)
 (.seq
  (.region [
   ⟨some 7, none, .mv (.t 0)⟩,
   ⟨some 8, none, .app 2 16 (.c (.slc 0 true [])) (.t 7)⟩,
   ⟨some 5, none, .mv (.t 8)⟩] none)
  (.seq
   (.seq
    (.region [
     ⟨some 6, none, .mv (.c (.int .i64 0))⟩] none)
    (.block 0 (.loop (.seq
       (.seq
        (.region [
         ⟨some 9, none, .mv (.t 6)⟩,
         ⟨some 10, none, .mv (.t 1)⟩,
         ⟨some 11, none, .len .slc (.t 10)⟩,
         ⟨some 12, none, .bin .lss (.t 9) (.t 11)⟩] none)
        (.cond (.t 12)
         .skip
         (.exit 0)))
       (.seq
        (.block 1 (.region [
          ⟨some 15, none, .mv (.t 5)⟩,
          ⟨some 16, none, .mv (.t 1)⟩,
          ⟨some 17, none, .mv (.t 6)⟩,
          ⟨some 18, none, .iaddr (.slc 2) (.t 16) (.t 17)⟩,
          ⟨some 19, none, .load true 2 (.t 18)⟩,
          ⟨some 20, none, .call 47 [(.t 15), (.t 19)]⟩,
          ⟨some 5, none, .mv (.t 20)⟩] none))
        (.region [
         ⟨some 13, none, .mv (.t 6)⟩,
         ⟨some 14, none, .bin .add (.t 13) (.c (.int .i64 1))⟩,
         ⟨some 6, none, .mv (.t 14)⟩] none))))))
   (.seq
    (.region [
     ⟨some 21, none, .mv (.t 5)⟩,
     ⟨some 4, none, .mv (.t 21)⟩] none)
    .ret))))⟩
theorem nf41_ok : compF Try.prog 41 = some nf41 := by kernel_rfl

/-- comitia/deps.merge -/
def nf42 : NF := ⟨57, [.tmp 6],
 (.seq
 (.region [
  ⟨some 6, none, .mv (.c (.slc 0 true []))⟩] none)
 (.scope (.seq
   (.region [
    ⟨some 7, none, .mv (.c (.slc 0 true []))⟩] none)
   (.seq
    (.region [
     ⟨some 8, none, .mv (.c (.int .i64 0))⟩] none)
    (.seq
     (.label 0)
     (.seq
      (.block 0 (.seq
        (.region [
         ⟨some 17, none, .mv (.t 0)⟩,
         ⟨some 18, none, .len .slc (.t 17)⟩,
         ⟨some 19, none, .bin .eql (.t 18) (.c (.int .i64 0))⟩,
         ⟨some 20, none, .mv (.t 19)⟩,
         ⟨some 21, some (20, true), .mv (.t 1)⟩,
         ⟨some 22, some (20, true), .len .slc (.t 21)⟩,
         ⟨some 23, some (20, true), .bin .eql (.t 22) (.c (.int .i64 0))⟩,
         ⟨some 24, none, .pick (.t 20) (.t 23) (.c (.bool false))⟩,
         ⟨some 16, none, .mv (.t 24)⟩] none)
        (.cond (.t 16)
         (.seq
          (.region [
           ⟨some 25, none, .mv (.t 7)⟩,
           ⟨some 6, none, .mv (.t 25)⟩] none)
          .ret)
         (.seq
          (.region [
           ⟨some 27, none, .mv (.t 0)⟩,
           ⟨some 28, none, .len .slc (.t 27)⟩,
           ⟨some 29, none, .bin .eql (.t 28) (.c (.int .i64 0))⟩,
           ⟨some 26, none, .mv (.t 29)⟩] none)
          (.cond (.t 26)
           (.region [
            ⟨some 8, none, .mv (.c (.int .i64 1))⟩] none)
           (.seq
            (.region [
             ⟨some 31, none, .mv (.t 1)⟩,
             ⟨some 32, none, .len .slc (.t 31)⟩,
             ⟨some 33, none, .bin .eql (.t 32) (.c (.int .i64 0))⟩,
             ⟨some 30, none, .mv (.t 33)⟩] none)
            (.cond (.t 30)
             (.region [
              ⟨some 8, none, .mv (.c (.int .i64 (-1)))⟩] none)
             (.region [
              ⟨some 9, none, .mv (.t 0)⟩,
              ⟨some 10, none, .iaddr (.slc 2) (.t 9) (.c (.int .i64 0))⟩,
              ⟨some 11, none, .load true 2 (.t 10)⟩,
              ⟨some 12, none, .mv (.t 1)⟩,
              ⟨some 13, none, .iaddr (.slc 2) (.t 12) (.c (.int .i64 0))⟩,
              ⟨some 14, none, .load true 2 (.t 13)⟩,
              ⟨some 15, none, .call 44 [(.t 11), (.t 14)]⟩,
              ⟨some 8, none, .mv (.t 15)⟩] (some (6, [0, 1, 3, 0, 8, 24, 63, 127], 0))))))))))
      (.seq
       (.seq
        (.region [
         ⟨some 34, none, .mv (.t 8)⟩,
         ⟨some 35, none, .bin .lss (.t 34) (.c (.int .i64 0))⟩] none)
        (.cond (.t 35)
         (.seq
          (.region [
           ⟨some 36, none, .mv (.t 7)⟩,
           ⟨some 37, none, .mv (.t 0)⟩,
           ⟨some 38, none, .iaddr (.slc 2) (.t 37) (.c (.int .i64 0))⟩,
           ⟨some 39, none, .load true 2 (.t 38)⟩,
           ⟨some 40, none, .bslc 2 1 [.int .i64 0, .int .i64 0] [(0, 2, (.t 39))]⟩,
           ⟨some 41, none, .app 2 16 (.t 36) (.t 40)⟩,
           ⟨some 42, none, .mv (.t 0)⟩,
           ⟨some 43, none, .slice (.slc 2) (.t 42) (some (.c (.int .i64 1))) none none⟩,
           ⟨some 7, none, .mv (.t 41)⟩,
           ⟨some 0, none, .mv (.t 43)⟩] (some (9, [0, 0, 2, 6, 14, 31, 0, 64, 63, 511], 0)))
          (.goto 0))
         .skip))
       (.seq
        (.seq
         (.region [
          ⟨some 44, none, .mv (.t 2)⟩] none)
         (.cond (.t 44)
          (.region [
           ⟨some 45, none, .mv (.t 7)⟩,
           ⟨some 46, none, .mv (.t 1)⟩,
           ⟨some 47, none, .iaddr (.slc 2) (.t 46) (.c (.int .i64 0))⟩,
           ⟨some 48, none, .load true 2 (.t 47)⟩,
           ⟨some 49, none, .bslc 2 1 [.int .i64 0, .int .i64 0] [(0, 2, (.t 48))]⟩,
           ⟨some 50, none, .app 2 16 (.t 45) (.t 49)⟩,
           ⟨some 7, none, .mv (.t 50)⟩] none)
          .skip))
        (.seq
         (.seq
          (.region [
           ⟨some 51, none, .mv (.t 1)⟩,
           ⟨some 52, none, .slice (.slc 2) (.t 51) (some (.c (.int .i64 1))) none none⟩,
           ⟨some 1, none, .mv (.t 52)⟩] none)
          (.seq
           (.region [
            ⟨some 53, none, .mv (.t 8)⟩,
            ⟨some 54, none, .bin .eql (.t 53) (.c (.int .i64 0))⟩] none)
           (.cond (.t 54)
            (.region [
             ⟨some 55, none, .mv (.t 0)⟩,
             ⟨some 56, none, .slice (.slc 2) (.t 55) (some (.c (.int .i64 1))) none none⟩,
             ⟨some 0, none, .mv (.t 56)⟩] none)
            .skip)))
         (.goto 0))))))))))⟩
theorem nf42_ok : compF Try.prog 42 = some nf42 := by kernel_rfl

/-- comitia/deps.Right -/
def nf43 : NF := ⟨21, [.tmp 2],
 (.seq
 (.region [
  ⟨some 1, none, .box (.t 0)⟩,
  ⟨some 2, none, .mv (.c (.bool false))⟩] none)
 (.seq
  (.region [
   ⟨some 3, none, .faddr 0 (.t 1)⟩,
   ⟨some 4, none, .load false 1 (.t 3)⟩,
   ⟨some 5, none, .bin .geq (.t 4) (.c (.int .i64 1))⟩,
   ⟨some 6, none, .mv (.t 5)⟩,
   ⟨some 7, some (6, true), .faddr 0 (.t 1)⟩,
   ⟨some 8, some (6, true), .load false 1 (.t 7)⟩,
   ⟨some 9, some (6, true), .bin .leq (.t 8) (.c (.int .i64 7))⟩,
   ⟨some 10, none, .pick (.t 6) (.t 9) (.c (.bool false))⟩,
   ⟨some 11, none, .mv (.t 10)⟩,
   ⟨some 12, some (11, true), .faddr 1 (.t 1)⟩,
   ⟨some 13, some (11, true), .load false 1 (.t 12)⟩,
   ⟨some 14, some (11, true), .bin .geq (.t 13) (.c (.int .i64 1))⟩,
   ⟨some 15, none, .pick (.t 11) (.t 14) (.c (.bool false))⟩,
   ⟨some 16, none, .mv (.t 15)⟩,
   ⟨some 17, some (16, true), .faddr 1 (.t 1)⟩,
   ⟨some 18, some (16, true), .load false 1 (.t 17)⟩,
   ⟨some 19, some (16, true), .bin .leq (.t 18) (.c (.int .i64 16777215))⟩,
   ⟨some 20, none, .pick (.t 16) (.t 19) (.c (.bool false))⟩,
   ⟨some 2, none, .mv (.t 20)⟩] none)
  .ret))⟩
theorem nf43_ok : compF Try.prog 43 = some nf43 := by kernel_rfl

/-- comitia/deps.Order -/
def nf44 : NF := ⟨17, [.tmp 4],
 (.seq
 (.region [
  ⟨some 2, none, .box (.t 0)⟩,
  ⟨some 3, none, .box (.t 1)⟩,
  ⟨some 4, none, .mv (.c (.int .i64 0))⟩] none)
 (.seq
  (.region [
   ⟨some 5, none, .faddr 0 (.t 2)⟩,
   ⟨some 6, none, .load false 1 (.t 5)⟩,
   ⟨some 7, none, .faddr 0 (.t 3)⟩,
   ⟨some 8, none, .load false 1 (.t 7)⟩,
   ⟨some 9, none, .call 49 [(.t 6), (.t 8)]⟩,
   ⟨some 10, none, .faddr 1 (.t 2)⟩,
   ⟨some 11, none, .load false 1 (.t 10)⟩,
   ⟨some 12, none, .faddr 1 (.t 3)⟩,
   ⟨some 13, none, .load false 1 (.t 12)⟩,
   ⟨some 14, none, .call 49 [(.t 11), (.t 13)]⟩,
   ⟨some 15, none, .bslc 1 2 [.int .i64 0, .int .i64 0] [(0, 1, (.t 9)), (1, 1, (.t 14))]⟩,
   ⟨some 16, none, .call 48 [(.t 15)]⟩,
   ⟨some 4, none, .mv (.t 16)⟩] (some (9, [0, 1, 0, 4, 15, 0, 32, 0, 128, 511, 1023, 2047, 4095], 512)))
  .ret))⟩
theorem nf44_ok : compF Try.prog 44 = some nf44 := by kernel_rfl

/-- comitia/comitiaref08.Right -/
def nf45 : NF := ⟨21, [.tmp 2],
 (.seq
 (.region [
  ⟨some 1, none, .box (.t 0)⟩,
  ⟨some 2, none, .mv (.c (.bool false))⟩] none)
 (.seq
  (.region [
   ⟨some 3, none, .faddr 0 (.t 1)⟩,
   ⟨some 4, none, .load false 1 (.t 3)⟩,
   ⟨some 5, none, .bin .geq (.t 4) (.c (.int .i64 1))⟩,
   ⟨some 6, none, .mv (.t 5)⟩,
   ⟨some 7, some (6, true), .faddr 0 (.t 1)⟩,
   ⟨some 8, some (6, true), .load false 1 (.t 7)⟩,
   ⟨some 9, some (6, true), .bin .leq (.t 8) (.c (.int .i64 7))⟩,
   ⟨some 10, none, .pick (.t 6) (.t 9) (.c (.bool false))⟩,
   ⟨some 11, none, .mv (.t 10)⟩,
   ⟨some 12, some (11, true), .faddr 1 (.t 1)⟩,
   ⟨some 13, some (11, true), .load false 1 (.t 12)⟩,
   ⟨some 14, some (11, true), .bin .geq (.t 13) (.c (.int .i64 1))⟩,
   ⟨some 15, none, .pick (.t 11) (.t 14) (.c (.bool false))⟩,
   ⟨some 16, none, .mv (.t 15)⟩,
   ⟨some 17, some (16, true), .faddr 1 (.t 1)⟩,
   ⟨some 18, some (16, true), .load false 1 (.t 17)⟩,
   ⟨some 19, some (16, true), .bin .lss (.t 18) (.c (.int .i64 16777216))⟩,
   ⟨some 20, none, .pick (.t 16) (.t 19) (.c (.bool false))⟩,
   ⟨some 2, none, .mv (.t 20)⟩] none)
  .ret))⟩
theorem nf45_ok : compF Try.prog 45 = some nf45 := by kernel_rfl

/-- comitia/comitiaref08.Order -/
def nf46 : NF := ⟨27, [.tmp 4],
 (.seq
 (.region [
  ⟨some 2, none, .box (.t 0)⟩,
  ⟨some 3, none, .box (.t 1)⟩,
  ⟨some 4, none, .mv (.c (.int .i64 0))⟩] none)
 (.seq
  (.seq
   (.region [
    ⟨some 5, none, .faddr 0 (.t 2)⟩,
    ⟨some 6, none, .load false 1 (.t 5)⟩,
    ⟨some 7, none, .faddr 0 (.t 3)⟩,
    ⟨some 8, none, .load false 1 (.t 7)⟩,
    ⟨some 9, none, .bin .lss (.t 6) (.t 8)⟩,
    ⟨some 10, none, .mv (.t 9)⟩,
    ⟨some 11, some (10, false), .faddr 0 (.t 2)⟩,
    ⟨some 12, some (10, false), .load false 1 (.t 11)⟩,
    ⟨some 13, some (10, false), .faddr 0 (.t 3)⟩,
    ⟨some 14, some (10, false), .load false 1 (.t 13)⟩,
    ⟨some 15, some (10, false), .bin .eql (.t 12) (.t 14)⟩,
    ⟨some 16, some (10, false), .mv (.t 15)⟩,
    ⟨some 17, some (16, true), .faddr 1 (.t 2)⟩,
    ⟨some 18, some (16, true), .load false 1 (.t 17)⟩,
    ⟨some 19, some (16, true), .faddr 1 (.t 3)⟩,
    ⟨some 20, some (16, true), .load false 1 (.t 19)⟩,
    ⟨some 21, some (16, true), .bin .lss (.t 18) (.t 20)⟩,
    ⟨some 22, some (10, false), .pick (.t 16) (.t 21) (.c (.bool false))⟩,
    ⟨some 23, none, .pick (.t 10) (.c (.bool true)) (.t 22)⟩] none)
   (.cond (.t 23)
    (.seq
     (.region [
      ⟨some 4, none, .mv (.c (.int .i64 (-1)))⟩] none)
     .ret)
    .skip))
  (.seq
   (.seq
    (.region [
     ⟨some 24, none, .load true 2 (.t 2)⟩,
     ⟨some 25, none, .load true 2 (.t 3)⟩,
     ⟨some 26, none, .eq (.key ⟨true, [.int, .int]⟩) false (.t 24) (.t 25)⟩] none)
    (.cond (.t 26)
     (.seq
      (.region [
       ⟨some 4, none, .mv (.c (.int .i64 0))⟩] none)
      .ret)
     .skip))
   (.seq
    (.region [
     ⟨some 4, none, .mv (.c (.int .i64 1))⟩] none)
    .ret))))⟩
theorem nf46_ok : compF Try.prog 46 = some nf46 := by kernel_rfl

/-- comitia/comitiaref08.Add -/
def nf47 : NF := ⟨46, [.tmp 4],
 (.seq
 (.region [
  ⟨some 3, none, .box (.t 1)⟩,
  ⟨some 4, none, .mv (.c (.slc 0 true []))⟩] none)
 (.seq
  (.seq
   (.region [
    ⟨some 7, none, .load true 2 (.t 3)⟩,
    ⟨some 8, none, .call 45 [(.t 7)]⟩,
    ⟨some 9, none, .un .not (.t 8)⟩,
    ⟨some 10, none, .mv (.t 9)⟩,
    ⟨some 11, some (10, false), .mv (.t 0)⟩,
    ⟨some 12, some (10, false), .load true 2 (.t 3)⟩,
    ⟨some 13, some (10, false), .call 50 [(.t 11), (.t 12)]⟩,
    ⟨some 14, none, .pick (.t 10) (.c (.bool true)) (.t 13)⟩] none)
   (.cond (.t 14)
    (.seq
     (.region [
      ⟨some 15, none, .mv (.t 0)⟩,
      ⟨some 16, none, .app 2 16 (.c (.slc 0 true [])) (.t 15)⟩,
      ⟨some 4, none, .mv (.t 16)⟩] none)
     .ret)
    .skip))
  (.seq
   (.region [
    ⟨some 5, none, .mv (.c (.int .i64 0))⟩] none)
   (.seq
    (.block 0 (.loop (.seq
       (.seq
        (.region [
         ⟨some 17, none, .mv (.t 5)⟩,
         ⟨some 18, none, .mv (.t 0)⟩,
         ⟨some 19, none, .len .slc (.t 18)⟩,
         ⟨some 20, none, .bin .lss (.t 17) (.t 19)⟩,
         ⟨some 21, none, .mv (.t 20)⟩,
         ⟨some 22, some (21, true), .mv (.t 0)⟩,
         ⟨some 23, some (21, true), .mv (.t 5)⟩,
         ⟨some 24, some (21, true), .iaddr (.slc 2) (.t 22) (.t 23)⟩,
         ⟨some 25, some (21, true), .load true 2 (.t 24)⟩,
         ⟨some 26, some (21, true), .load true 2 (.t 3)⟩,
         ⟨some 27, some (21, true), .call 46 [(.t 25), (.t 26)]⟩,
         ⟨some 28, some (21, true), .bin .lss (.t 27) (.c (.int .i64 0))⟩,
         ⟨some 29, none, .pick (.t 21) (.t 28) (.c (.bool false))⟩] (some (10, [0, 0, 2, 7, 15, 31, 31, 127, 255, 31, 1023, 2047, 4095], 0)))
        (.cond (.t 29)
         .skip
         (.exit 0)))
       (.block 1 (.region [
         ⟨some 30, none, .mv (.t 5)⟩,
         ⟨some 31, none, .bin .add (.t 30) (.c (.int .i64 1))⟩,
         ⟨some 5, none, .mv (.t 31)⟩] none)))))
    (.seq
     (.region [
      ⟨some 6, none, .mv (.c (.slc 0 true []))⟩] none)
     (.seq
      (.region [
       ⟨some 32, none, .mv (.t 6)⟩,
       ⟨some 33, none, .mv (.t 0)⟩,
       ⟨some 34, none, .mv (.t 5)⟩,
       ⟨some 35, none, .slice (.slc 2) (.t 33) none (some (.t 34)) none⟩,
       ⟨some 36, none, .app 2 16 (.t 32) (.t 35)⟩,
       ⟨some 6, none, .mv (.t 36)⟩] none)
      (.seq
       (.region [
        ⟨some 37, none, .mv (.t 6)⟩,
        ⟨some 38, none, .load true 2 (.t 3)⟩,
        ⟨some 39, none, .bslc 2 1 [.int .i64 0, .int .i64 0] [(0, 2, (.t 38))]⟩,
        ⟨some 40, none, .app 2 16 (.t 37) (.t 39)⟩,
        ⟨some 6, none, .mv (.t 40)⟩] none)
       (.seq
        (.region [
         ⟨some 41, none, .mv (.t 6)⟩,
         ⟨some 42, none, .mv (.t 0)⟩,
         ⟨some 43, none, .mv (.t 5)⟩,
         ⟨some 44, none, .slice (.slc 2) (.t 42) (some (.t 43)) none none⟩,
         ⟨some 45, none, .app 2 16 (.t 41) (.t 44)⟩,
         ⟨some 4, none, .mv (.t 45)⟩] none)
        .ret))))))))⟩
theorem nf47_ok : compF Try.prog 47 = some nf47 := by kernel_rfl

/-- cmp.Or[int] -/
def nf48 : NF := ⟨18, [.tmp 2],
 (.seq
 (.region [
  ⟨some 2, none, .mv (.c (.int .i64 0))⟩] none)
 (.seq
  (.region [
   ⟨some 3, none, .mv (.c (.int .i64 0))⟩] none)
  (.seq
   (.seq
    (.region [
     ⟨some 6, none, .mv (.t 0)⟩,
     ⟨some 7, none, .len .slc (.t 6)⟩,
     ⟨some 8, none, .mv (.c (.int .i64 0))⟩] none)
    (.block 0 (.loop (.seq
       (.region [
        ⟨some 9, none, .bin .lss (.t 8) (.t 7)⟩] none)
       (.seq
        (.cond (.t 9)
         .skip
         (.exit 0))
        (.seq
         (.block 1 (.seq
           (.region [
            ⟨some 10, none, .iaddr (.slc 1) (.t 6) (.t 8)⟩,
            ⟨some 11, none, .load false 1 (.t 10)⟩,
            ⟨some 5, none, .mv (.t 11)⟩] none)
           (.seq
            (.region [
             ⟨some 12, none, .mv (.t 5)⟩,
             ⟨some 13, none, .mv (.t 3)⟩,
             ⟨some 14, none, .bin .neq (.t 12) (.t 13)⟩] none)
            (.cond (.t 14)
             (.seq
              (.region [
               ⟨some 15, none, .mv (.t 5)⟩,
               ⟨some 2, none, .mv (.t 15)⟩] none)
              .ret)
             .skip))))
         (.region [
          ⟨some 16, none, .bin .add (.t 8) (.c (.int .i64 1))⟩,
          ⟨some 8, none, .mv (.t 16)⟩] none)))))))
   (.seq
    (.region [
     ⟨some 17, none, .mv (.t 3)⟩,
     ⟨some 2, none, .mv (.t 17)⟩] none)
    .ret))))⟩
theorem nf48_ok : compF Try.prog 48 = some nf48 := by kernel_rfl

/-- cmp.Compare[int] -/
def nf49 : NF := ⟨20, [.tmp 4],
 (.seq
 (.region [
  ⟨some 4, none, .mv (.c (.int .i64 0))⟩] none)
 (.seq
  (.region [
   ⟨some 7, none, .mv (.t 0)⟩,
   ⟨some 8, none, .call 51 [(.t 7)]⟩,
   ⟨some 5, none, .mv (.t 8)⟩] none)
  (.seq
   (.region [
    ⟨some 9, none, .mv (.t 1)⟩,
    ⟨some 10, none, .call 51 [(.t 9)]⟩,
    ⟨some 6, none, .mv (.t 10)⟩] none)
   (.seq
    (.seq
     (.region [
      ⟨some 11, none, .mv (.t 5)⟩] none)
     (.cond (.t 11)
      (.seq
       (.seq
        (.region [
         ⟨some 12, none, .mv (.t 6)⟩] none)
        (.cond (.t 12)
         (.seq
          (.region [
           ⟨some 4, none, .mv (.c (.int .i64 0))⟩] none)
          .ret)
         .skip))
       (.seq
        (.region [
         ⟨some 4, none, .mv (.c (.int .i64 (-1)))⟩] none)
        .ret))
      .skip))
    (.seq
     (.seq
      (.region [
       ⟨some 13, none, .mv (.t 6)⟩] none)
      (.cond (.t 13)
       (.seq
        (.region [
         ⟨some 4, none, .mv (.c (.int .i64 1))⟩] none)
        .ret)
       .skip))
     (.seq
      (.seq
       (.region [
        ⟨some 14, none, .mv (.t 0)⟩,
        ⟨some 15, none, .mv (.t 1)⟩,
        ⟨some 16, none, .bin .lss (.t 14) (.t 15)⟩] none)
       (.cond (.t 16)
        (.seq
         (.region [
          ⟨some 4, none, .mv (.c (.int .i64 (-1)))⟩] none)
         .ret)
        .skip))
      (.seq
       (.seq
        (.region [
         ⟨some 17, none, .mv (.t 0)⟩,
         ⟨some 18, none, .mv (.t 1)⟩,
         ⟨some 19, none, .bin .gtr (.t 17) (.t 18)⟩] none)
        (.cond (.t 19)
         (.seq
          (.region [
           ⟨some 4, none, .mv (.c (.int .i64 1))⟩] none)
          .ret)
         .skip))
       (.seq
        (.region [
         ⟨some 4, none, .mv (.c (.int .i64 0))⟩] none)
        .ret))))))))⟩
theorem nf49_ok : compF Try.prog 49 = some nf49 := by kernel_rfl

/-- comitia/comitiaref08.Has -/
def nf50 : NF := ⟨18, [.tmp 4],
 (.seq
 (.region [
  ⟨some 3, none, .box (.t 1)⟩,
  ⟨some 4, none, .mv (.c (.bool false))⟩] none)
 (.seq
  (.seq
   (.region [
    ⟨some 5, none, .mv (.c (.int .i64 0))⟩] none)
   (.block 0 (.loop (.seq
      (.seq
       (.region [
        ⟨some 6, none, .mv (.t 5)⟩,
        ⟨some 7, none, .mv (.t 0)⟩,
        ⟨some 8, none, .len .slc (.t 7)⟩,
        ⟨some 9, none, .bin .lss (.t 6) (.t 8)⟩] none)
       (.cond (.t 9)
        .skip
        (.exit 0)))
      (.seq
       (.block 1 (.seq
         (.region [
          ⟨some 12, none, .mv (.t 0)⟩,
          ⟨some 13, none, .mv (.t 5)⟩,
          ⟨some 14, none, .iaddr (.slc 2) (.t 12) (.t 13)⟩,
          ⟨some 15, none, .load true 2 (.t 14)⟩,
          ⟨some 16, none, .load true 2 (.t 3)⟩,
          ⟨some 17, none, .eq (.key ⟨true, [.int, .int]⟩) false (.t 15) (.t 16)⟩] (some (5, [0, 0, 3, 7, 0, 31], 0)))
         (.cond (.t 17)
          (.seq
           (.region [
            ⟨some 4, none, .mv (.c (.bool true))⟩] none)
           .ret)
          .skip)))
       (.region [
        ⟨some 10, none, .mv (.t 5)⟩,
        ⟨some 11, none, .bin .add (.t 10) (.c (.int .i64 1))⟩,
        ⟨some 5, none, .mv (.t 11)⟩] none))))))
  (.seq
   (.region [
    ⟨some 4, none, .mv (.c (.bool false))⟩] none)
   .ret)))⟩
theorem nf50_ok : compF Try.prog 50 = some nf50 := by kernel_rfl

/-- cmp.isNaN[int] -/
def nf51 : NF := ⟨6, [.tmp 2],
 (.seq
 (.region [
  ⟨some 2, none, .mv (.c (.bool false))⟩] none)
 (.seq
  (.region [
   ⟨some 3, none, .mv (.t 0)⟩,
   ⟨some 4, none, .mv (.t 0)⟩,
   ⟨some 5, none, .bin .neq (.t 3) (.t 4)⟩,
   ⟨some 2, none, .mv (.t 5)⟩] none)
  .ret))⟩
theorem nf51_ok : compF Try.prog 51 = some nf51 := by kernel_rfl

def F : FuncId → Option NF
  | 3 => some nf3
  | 4 => some nf4
  | 5 => some nf5
  | 6 => some nf6
  | 7 => some nf7
  | 8 => some nf8
  | 9 => some nf9
  | 10 => some nf10
  | 11 => some nf11
  | 12 => some nf12
  | 13 => some nf13
  | 14 => some nf14
  | 15 => some nf15
  | 16 => some nf16
  | 17 => some nf17
  | 18 => some nf18
  | 19 => some nf19
  | 20 => some nf20
  | 21 => some nf21
  | 22 => some nf22
  | 23 => some nf23
  | 24 => some nf24
  | 25 => some nf25
  | 26 => some nf26
  | 27 => some nf27
  | 28 => some nf28
  | 29 => some nf29
  | 30 => some nf30
  | 31 => some nf31
  | 32 => some nf32
  | 33 => some nf33
  | 34 => some nf34
  | 35 => some nf35
  | 36 => some nf36
  | 37 => some nf37
  | 38 => some nf38
  | 39 => some nf39
  | 40 => some nf40
  | 41 => some nf41
  | 42 => some nf42
  | 43 => some nf43
  | 44 => some nf44
  | 45 => some nf45
  | 46 => some nf46
  | 47 => some nf47
  | 48 => some nf48
  | 49 => some nf49
  | 50 => some nf50
  | 51 => some nf51
  | _ => none
theorem F_ok (f : FuncId) (nf : NF) (h : F f = some nf) : compF Try.prog f = some nf := by
  unfold F at h
  split at h
  · rw [← h]; exact nf3_ok
  · rw [← h]; exact nf4_ok
  · rw [← h]; exact nf5_ok
  · rw [← h]; exact nf6_ok
  · rw [← h]; exact nf7_ok
  · rw [← h]; exact nf8_ok
  · rw [← h]; exact nf9_ok
  · rw [← h]; exact nf10_ok
  · rw [← h]; exact nf11_ok
  · rw [← h]; exact nf12_ok
  · rw [← h]; exact nf13_ok
  · rw [← h]; exact nf14_ok
  · rw [← h]; exact nf15_ok
  · rw [← h]; exact nf16_ok
  · rw [← h]; exact nf17_ok
  · rw [← h]; exact nf18_ok
  · rw [← h]; exact nf19_ok
  · rw [← h]; exact nf20_ok
  · rw [← h]; exact nf21_ok
  · rw [← h]; exact nf22_ok
  · rw [← h]; exact nf23_ok
  · rw [← h]; exact nf24_ok
  · rw [← h]; exact nf25_ok
  · rw [← h]; exact nf26_ok
  · rw [← h]; exact nf27_ok
  · rw [← h]; exact nf28_ok
  · rw [← h]; exact nf29_ok
  · rw [← h]; exact nf30_ok
  · rw [← h]; exact nf31_ok
  · rw [← h]; exact nf32_ok
  · rw [← h]; exact nf33_ok
  · rw [← h]; exact nf34_ok
  · rw [← h]; exact nf35_ok
  · rw [← h]; exact nf36_ok
  · rw [← h]; exact nf37_ok
  · rw [← h]; exact nf38_ok
  · rw [← h]; exact nf39_ok
  · rw [← h]; exact nf40_ok
  · rw [← h]; exact nf41_ok
  · rw [← h]; exact nf42_ok
  · rw [← h]; exact nf43_ok
  · rw [← h]; exact nf44_ok
  · rw [← h]; exact nf45_ok
  · rw [← h]; exact nf46_ok
  · rw [← h]; exact nf47_ok
  · rw [← h]; exact nf48_ok
  · rw [← h]; exact nf49_ok
  · rw [← h]; exact nf50_ok
  · rw [← h]; exact nf51_ok
  · cases h
end Go.Proofs.Ytjjkabbncpalpaa.Nv
