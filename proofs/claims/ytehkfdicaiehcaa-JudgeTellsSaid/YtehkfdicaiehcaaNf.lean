/- The functions that these statements reach, with their static parts reckoned; that they are the program's. -/
import Derived.Test.YtehkfdicaiehcaaNvCall
import Derived.Test.YtehkfdicaiehcaaNvW
import Derived.Test.YtehkfdicaiehcaaChecked
import Derived.KernelRfl
namespace Go.Proofs.Ytehkfdicaiehcaa.Nv
open Go

/-- comitia/comitialaw23.JudgeTells -/
def nf3 : NF := ⟨184, [.tmp 8],
 (.seq
 (.region [
  ⟨some 8, none, .mv (.c (.bool false))⟩] none)
 (.seq
  (.region [
   ⟨some 19, none, .call 8 []⟩,
   ⟨some 9, none, .mv (.t 19)⟩] none)
  (.seq
   (.seq
    (.region [
     ⟨some 20, none, .mv (.t 9)⟩,
     ⟨some 21, none, .un .not (.t 20)⟩] none)
    (.cond (.t 21)
     (.seq
      (.region [
       ⟨some 8, none, .mv (.c (.bool false))⟩] none)
      .ret)
     .skip))
   (.seq
    (.region [
     ⟨some 22, none, .mv (.t 0)⟩,
     ⟨some 23, none, .call 9 [(.t 22)]⟩,
     ⟨some 10, none, .mv (.t 23)⟩] none)
    (.seq
     (.region [
      ⟨some 24, none, .mv (.t 1)⟩,
      ⟨some 25, none, .call 9 [(.t 24)]⟩,
      ⟨some 11, none, .mv (.t 25)⟩] none)
     (.seq
      (.seq
       (.region [
        ⟨some 26, none, .mv (.t 2)⟩,
        ⟨some 27, none, .bin .rem (.t 26) (.c (.int .u8 3))⟩,
        ⟨some 28, none, .bin .eql (.t 27) (.c (.int .u8 0))⟩] none)
       (.cond (.t 28)
        (.region [
         ⟨some 29, none, .mv (.t 10)⟩,
         ⟨some 30, none, .mv (.t 2)⟩,
         ⟨some 31, none, .i2i .i64 (.t 30)⟩,
         ⟨some 32, none, .mv (.t 10)⟩,
         ⟨some 33, none, .len .slc (.t 32)⟩,
         ⟨some 34, none, .bin .add (.t 33) (.c (.int .i64 1))⟩,
         ⟨some 35, none, .bin .rem (.t 31) (.t 34)⟩,
         ⟨some 36, none, .slice (.slc 5) (.t 29) none (some (.t 35)) none⟩,
         ⟨some 11, none, .mv (.t 36)⟩] none)
        .skip))
      (.seq
       (.region [
        ⟨some 12, none, .mv (.c (.slc 0 true []))⟩] none)
       (.seq
        (.region [
         ⟨some 13, none, .mv (.c (.slc 0 true []))⟩] none)
        (.seq
         (.seq
          (.region [
           ⟨some 14, none, .mv (.c (.int .i64 0))⟩] none)
          (.block 0 (.loop (.seq
             (.seq
              (.region [
               ⟨some 37, none, .mv (.t 14)⟩,
               ⟨some 38, none, .mv (.t 3)⟩,
               ⟨some 39, none, .len .slc (.t 38)⟩,
               ⟨some 40, none, .bin .lss (.t 37) (.t 39)⟩,
               ⟨some 41, none, .mv (.t 40)⟩,
               ⟨some 42, some (41, true), .mv (.t 14)⟩,
               ⟨some 43, some (41, true), .bin .lss (.t 42) (.c (.int .i64 12))⟩,
               ⟨some 44, none, .pick (.t 41) (.t 43) (.c (.bool false))⟩] none)
              (.cond (.t 44)
               .skip
               (.exit 0)))
             (.seq
              (.block 1 (.seq
                (.region [
                 ⟨some 47, none, .mv (.t 3)⟩,
                 ⟨some 48, none, .mv (.t 14)⟩,
                 ⟨some 49, none, .iaddr (.slc 12) (.t 47) (.t 48)⟩,
                 ⟨some 50, none, .load true 12 (.t 49)⟩,
                 ⟨some 51, none, .call 10 [(.t 50)]⟩,
                 ⟨some 15, none, .new [.int .i64 0, .int .i64 0, .int .i64 0, .int .i64 0, .int .u32 0, .str ByteArray.empty, .str ByteArray.empty, .int .i64 0, .int .i64 0, .int .i64 0, .int .u32 0, .bool false, .str ByteArray.empty]⟩,
                 ⟨none, none, .store 13 (.t 15) (.t 51)⟩] none)
                (.seq
                 (.region [
                  ⟨some 52, none, .mv (.t 12)⟩,
                  ⟨some 53, none, .load true 13 (.t 15)⟩,
                  ⟨some 54, none, .bslc 13 1 [.int .i64 0, .int .i64 0, .int .i64 0, .int .i64 0, .int .u32 0, .str ByteArray.empty, .str ByteArray.empty, .int .i64 0, .int .i64 0, .int .i64 0, .int .u32 0, .bool false, .str ByteArray.empty] [(0, 13, (.t 53))]⟩,
                  ⟨some 55, none, .app 13 120 (.t 52) (.t 54)⟩,
                  ⟨some 12, none, .mv (.t 55)⟩] none)
                 (.region [
                  ⟨some 56, none, .mv (.t 13)⟩,
                  ⟨some 57, none, .faddr 0 (.t 15)⟩,
                  ⟨some 58, none, .load false 1 (.t 57)⟩,
                  ⟨some 59, none, .faddr 2 (.t 15)⟩,
                  ⟨some 60, none, .load true 5 (.t 59)⟩,
                  ⟨some 61, none, .call 11 [(.t 60)]⟩,
                  ⟨some 62, none, .faddr 9 (.t 15)⟩,
                  ⟨some 63, none, .faddr 0 (.t 62)⟩,
                  ⟨some 64, none, .load false 1 (.t 63)⟩,
                  ⟨some 65, none, .faddr 9 (.t 15)⟩,
                  ⟨some 66, none, .faddr 1 (.t 65)⟩,
                  ⟨some 67, none, .load false 1 (.t 66)⟩,
                  ⟨some 68, none, .faddr 9 (.t 15)⟩,
                  ⟨some 69, none, .faddr 2 (.t 68)⟩,
                  ⟨some 70, none, .load false 1 (.t 69)⟩,
                  ⟨some 71, none, .faddr 9 (.t 15)⟩,
                  ⟨some 72, none, .faddr 3 (.t 71)⟩,
                  ⟨some 73, none, .load false 1 (.t 72)⟩,
                  ⟨some 74, none, .build [.int .i64 0, .int .u32 0, .bool false, .str ByteArray.empty] [(0, 1, (.t 64)), (1, 1, (.t 67)), (2, 1, (.t 70)), (3, 1, (.t 73))]⟩,
                  ⟨some 75, none, .build [.int .i64 0, .int .i64 0, .int .i64 0, .int .i64 0, .int .u32 0, .str ByteArray.empty, .str ByteArray.empty, .int .i64 0, .int .i64 0, .int .i64 0, .int .u32 0, .bool false, .str ByteArray.empty] [(0, 1, (.t 58)), (2, 5, (.t 61)), (9, 4, (.t 74))]⟩,
                  ⟨some 76, none, .bslc 13 1 [.int .i64 0, .int .i64 0, .int .i64 0, .int .i64 0, .int .u32 0, .str ByteArray.empty, .str ByteArray.empty, .int .i64 0, .int .i64 0, .int .i64 0, .int .u32 0, .bool false, .str ByteArray.empty] [(0, 13, (.t 75))]⟩,
                  ⟨some 77, none, .app 13 120 (.t 56) (.t 76)⟩,
                  ⟨some 13, none, .mv (.t 77)⟩] (some (21, [0, 0, 2, 0, 8, 24, 0, 64, 192, 0, 512, 1536, 0, 4096, 12288, 0, 32768, 98304, 262080, 524286, 1048574, 2097151, 4194303], 2048))))))
              (.region [
               ⟨some 45, none, .mv (.t 14)⟩,
               ⟨some 46, none, .bin .add (.t 45) (.c (.int .i64 1))⟩,
               ⟨some 14, none, .mv (.t 46)⟩] none))))))
         (.seq
          (.region [
           ⟨some 78, none, .mv (.t 10)⟩,
           ⟨some 79, none, .call 12 [(.t 78)]⟩,
           ⟨some 16, none, .mv (.t 79)⟩] none)
          (.seq
           (.region [
            ⟨some 80, none, .mv (.t 10)⟩,
            ⟨some 81, none, .call 14 [(.t 80)]⟩,
            ⟨some 82, none, .call 13 [(.t 81)]⟩,
            ⟨some 17, none, .mv (.t 82)⟩] none)
           (.seq
            (.seq
             (.region [
              ⟨some 83, none, .mv (.t 16)⟩,
              ⟨some 84, none, .len .slc (.t 83)⟩,
              ⟨some 85, none, .mv (.t 17)⟩,
              ⟨some 86, none, .len .slc (.t 85)⟩,
              ⟨some 87, none, .bin .neq (.t 84) (.t 86)⟩] none)
             (.cond (.t 87)
              (.seq
               (.region [
                ⟨some 8, none, .mv (.c (.bool false))⟩] none)
               .ret)
              .skip))
            (.seq
             (.seq
              (.region [
               ⟨some 18, none, .mv (.c (.int .i64 0))⟩] none)
              (.block 2 (.loop (.seq
                 (.seq
                  (.region [
                   ⟨some 88, none, .mv (.t 18)⟩,
                   ⟨some 89, none, .mv (.t 16)⟩,
                   ⟨some 90, none, .len .slc (.t 89)⟩,
                   ⟨some 91, none, .bin .lss (.t 88) (.t 90)⟩] none)
                  (.cond (.t 91)
                   .skip
                   (.exit 2)))
                 (.seq
                  (.block 3 (.seq
                    (.region [
                     ⟨some 94, none, .mv (.t 16)⟩,
                     ⟨some 95, none, .mv (.t 18)⟩,
                     ⟨some 96, none, .iaddr (.slc 4) (.t 94) (.t 95)⟩,
                     ⟨some 97, none, .faddr 0 (.t 96)⟩,
                     ⟨some 98, none, .load false 1 (.t 97)⟩,
                     ⟨some 99, none, .mv (.t 17)⟩,
                     ⟨some 100, none, .mv (.t 18)⟩,
                     ⟨some 101, none, .iaddr (.slc 4) (.t 99) (.t 100)⟩,
                     ⟨some 102, none, .faddr 0 (.t 101)⟩,
                     ⟨some 103, none, .load false 1 (.t 102)⟩,
                     ⟨some 104, none, .bin .neq (.t 98) (.t 103)⟩,
                     ⟨some 105, none, .mv (.t 104)⟩,
                     ⟨some 106, some (105, false), .mv (.t 16)⟩,
                     ⟨some 107, some (105, false), .mv (.t 18)⟩,
                     ⟨some 108, some (105, false), .iaddr (.slc 4) (.t 106) (.t 107)⟩,
                     ⟨some 109, some (105, false), .faddr 1 (.t 108)⟩,
                     ⟨some 110, some (105, false), .load false 1 (.t 109)⟩,
                     ⟨some 111, some (105, false), .mv (.t 17)⟩,
                     ⟨some 112, some (105, false), .mv (.t 18)⟩,
                     ⟨some 113, some (105, false), .iaddr (.slc 4) (.t 111) (.t 112)⟩,
                     ⟨some 114, some (105, false), .faddr 1 (.t 113)⟩,
                     ⟨some 115, some (105, false), .load false 1 (.t 114)⟩,
                     ⟨some 116, some (105, false), .bin .neq (.t 110) (.t 115)⟩,
                     ⟨some 117, none, .pick (.t 105) (.c (.bool true)) (.t 116)⟩,
                     ⟨some 118, none, .mv (.t 117)⟩,
                     ⟨some 119, some (118, false), .mv (.t 16)⟩,
                     ⟨some 120, some (118, false), .mv (.t 18)⟩,
                     ⟨some 121, some (118, false), .iaddr (.slc 4) (.t 119) (.t 120)⟩,
                     ⟨some 122, some (118, false), .faddr 2 (.t 121)⟩,
                     ⟨some 123, some (118, false), .load false 1 (.t 122)⟩,
                     ⟨some 124, some (118, false), .mv (.t 17)⟩,
                     ⟨some 125, some (118, false), .mv (.t 18)⟩,
                     ⟨some 126, some (118, false), .iaddr (.slc 4) (.t 124) (.t 125)⟩,
                     ⟨some 127, some (118, false), .faddr 2 (.t 126)⟩,
                     ⟨some 128, some (118, false), .load false 1 (.t 127)⟩,
                     ⟨some 129, some (118, false), .eq (.key ⟨false, [.bool]⟩) true (.t 123) (.t 128)⟩,
                     ⟨some 130, none, .pick (.t 118) (.c (.bool true)) (.t 129)⟩,
                     ⟨some 131, none, .mv (.t 130)⟩,
                     ⟨some 132, some (131, false), .mv (.t 16)⟩,
                     ⟨some 133, some (131, false), .mv (.t 18)⟩,
                     ⟨some 134, some (131, false), .iaddr (.slc 4) (.t 132) (.t 133)⟩,
                     ⟨some 135, some (131, false), .faddr 3 (.t 134)⟩,
                     ⟨some 136, some (131, false), .load false 1 (.t 135)⟩,
                     ⟨some 137, some (131, false), .mv (.t 17)⟩,
                     ⟨some 138, some (131, false), .mv (.t 18)⟩,
                     ⟨some 139, some (131, false), .iaddr (.slc 4) (.t 137) (.t 138)⟩,
                     ⟨some 140, some (131, false), .faddr 3 (.t 139)⟩,
                     ⟨some 141, some (131, false), .load false 1 (.t 140)⟩,
                     ⟨some 142, some (131, false), .bin .neq (.t 136) (.t 141)⟩,
                     ⟨some 143, none, .pick (.t 131) (.c (.bool true)) (.t 142)⟩] (some (48, [0, 0, 3, 7, 15, 0, 0, 96, 224, 480, 1023, 2047, 4095, 4095, 16383, 32767, 65535, 4095, 4095, 397311, 921599, 1970175, 4194303, 8388607, 16777215, 33554431, 33554431, 134217727, 268435455, 536870911, 33554431, 33554431, 3254779903, 7549747199, 16139681791, 34359738367, 68719476735, 137438953471, 274877906943, 274877906943, 1099511627775, 2199023255551, 4398046511103, 274877906943, 274877906943, 26663156973567, 61847529062399, 132216273240063, 281474976710655, 562949953421311], 0)))
                    (.cond (.t 143)
                     (.seq
                      (.region [
                       ⟨some 8, none, .mv (.c (.bool false))⟩] none)
                      .ret)
                     .skip)))
                  (.region [
                   ⟨some 92, none, .mv (.t 18)⟩,
                   ⟨some 93, none, .bin .add (.t 92) (.c (.int .i64 1))⟩,
                   ⟨some 18, none, .mv (.t 93)⟩] none))))))
             (.seq
              (.region [
               ⟨some 144, none, .mv (.t 9)⟩,
               ⟨some 145, none, .mv (.t 144)⟩,
               ⟨some 146, some (145, true), .mv (.t 10)⟩,
               ⟨some 147, some (145, true), .mv (.t 11)⟩,
               ⟨some 148, some (145, true), .call 15 [(.t 146), (.t 147)]⟩,
               ⟨some 149, some (145, true), .mv (.t 10)⟩,
               ⟨some 150, some (145, true), .call 14 [(.t 149)]⟩,
               ⟨some 151, some (145, true), .mv (.t 11)⟩,
               ⟨some 152, some (145, true), .call 14 [(.t 151)]⟩,
               ⟨some 153, some (145, true), .call 16 [(.t 150), (.t 152)]⟩,
               ⟨some 154, some (145, true), .eq (.key ⟨false, [.bool]⟩) false (.t 148) (.t 153)⟩,
               ⟨some 155, none, .pick (.t 145) (.t 154) (.c (.bool false))⟩,
               ⟨some 156, none, .mv (.t 155)⟩,
               ⟨some 157, some (156, true), .mv (.t 10)⟩,
               ⟨some 158, some (156, true), .call 17 [(.t 157)]⟩,
               ⟨some 159, some (156, true), .mv (.t 10)⟩,
               ⟨some 160, some (156, true), .call 14 [(.t 159)]⟩,
               ⟨some 161, some (156, true), .call 18 [(.t 160)]⟩,
               ⟨some 162, some (156, true), .eq (.key ⟨false, [.bool]⟩) false (.t 158) (.t 161)⟩,
               ⟨some 163, none, .pick (.t 156) (.t 162) (.c (.bool false))⟩,
               ⟨some 164, none, .mv (.t 163)⟩,
               ⟨some 165, some (164, true), .mv (.t 10)⟩,
               ⟨some 166, some (164, true), .mv (.t 12)⟩,
               ⟨some 167, some (164, true), .call 19 [(.t 165), (.t 166)]⟩,
               ⟨some 168, some (164, true), .mv (.t 10)⟩,
               ⟨some 169, some (164, true), .call 14 [(.t 168)]⟩,
               ⟨some 170, some (164, true), .mv (.t 13)⟩,
               ⟨some 171, some (164, true), .call 20 [(.t 169), (.t 170)]⟩,
               ⟨some 172, some (164, true), .eq (.key ⟨false, [.bool]⟩) false (.t 167) (.t 171)⟩,
               ⟨some 173, none, .pick (.t 164) (.t 172) (.c (.bool false))⟩,
               ⟨some 174, none, .mv (.t 173)⟩,
               ⟨some 175, some (174, true), .mv (.t 10)⟩,
               ⟨some 176, some (174, true), .mv (.t 12)⟩,
               ⟨some 177, some (174, true), .call 21 [(.t 175), (.t 176)]⟩,
               ⟨some 178, some (174, true), .mv (.t 10)⟩,
               ⟨some 179, some (174, true), .call 14 [(.t 178)]⟩,
               ⟨some 180, some (174, true), .mv (.t 13)⟩,
               ⟨some 181, some (174, true), .call 22 [(.t 179), (.t 180)]⟩,
               ⟨some 182, some (174, true), .eq (.key ⟨false, [.bool]⟩) false (.t 177) (.t 181)⟩,
               ⟨some 183, none, .pick (.t 174) (.t 182) (.c (.bool false))⟩,
               ⟨some 8, none, .mv (.t 183)⟩] none)
              .ret))))))))))))))⟩
theorem nf3_ok : compF Try.prog 3 = some nf3 := by kernel_rfl

/-- comitia/comitialaw23.JudgePrefix -/
def nf4 : NF := ⟨93, [.tmp 6],
 (.seq
 (.region [
  ⟨some 6, none, .mv (.c (.bool false))⟩] none)
 (.seq
  (.region [
   ⟨some 12, none, .call 8 []⟩,
   ⟨some 7, none, .mv (.t 12)⟩] none)
  (.seq
   (.seq
    (.region [
     ⟨some 13, none, .mv (.t 7)⟩,
     ⟨some 14, none, .un .not (.t 13)⟩] none)
    (.cond (.t 14)
     (.seq
      (.region [
       ⟨some 6, none, .mv (.c (.bool false))⟩] none)
      .ret)
     .skip))
   (.seq
    (.region [
     ⟨some 15, none, .mv (.t 0)⟩,
     ⟨some 16, none, .call 9 [(.t 15)]⟩,
     ⟨some 8, none, .mv (.t 16)⟩] none)
    (.seq
     (.region [
      ⟨some 17, none, .mv (.t 1)⟩,
      ⟨some 18, none, .i2i .i64 (.t 17)⟩,
      ⟨some 19, none, .mv (.t 8)⟩,
      ⟨some 20, none, .len .slc (.t 19)⟩,
      ⟨some 21, none, .bin .add (.t 20) (.c (.int .i64 1))⟩,
      ⟨some 22, none, .bin .rem (.t 18) (.t 21)⟩,
      ⟨some 9, none, .mv (.t 22)⟩] none)
     (.seq
      (.region [
       ⟨some 23, none, .mv (.t 2)⟩,
       ⟨some 24, none, .i2i .i64 (.t 23)⟩,
       ⟨some 25, none, .mv (.t 8)⟩,
       ⟨some 26, none, .len .slc (.t 25)⟩,
       ⟨some 27, none, .bin .add (.t 26) (.c (.int .i64 1))⟩,
       ⟨some 28, none, .bin .rem (.t 24) (.t 27)⟩,
       ⟨some 10, none, .mv (.t 28)⟩] none)
      (.seq
       (.region [
        ⟨some 29, none, .mv (.t 0)⟩,
        ⟨some 30, none, .call 9 [(.t 29)]⟩,
        ⟨some 31, none, .mv (.t 9)⟩,
        ⟨some 32, none, .mv (.t 9)⟩,
        ⟨some 33, none, .slice (.slc 5) (.t 30) none (some (.t 31)) (some (.t 32))⟩,
        ⟨some 34, none, .mv (.t 8)⟩,
        ⟨some 35, none, .app 5 56 (.t 33) (.t 34)⟩,
        ⟨some 11, none, .mv (.t 35)⟩] none)
       (.seq
        (.seq
         (.region [
          ⟨some 36, none, .mv (.t 9)⟩,
          ⟨some 37, none, .mv (.t 8)⟩,
          ⟨some 38, none, .len .slc (.t 37)⟩,
          ⟨some 39, none, .bin .lss (.t 36) (.t 38)⟩] none)
         (.cond (.t 39)
          (.region [
           ⟨some 40, none, .mv (.t 11)⟩,
           ⟨some 41, none, .mv (.t 9)⟩,
           ⟨some 42, none, .mv (.t 8)⟩,
           ⟨some 43, none, .mv (.t 9)⟩,
           ⟨some 44, none, .iaddr (.slc 5) (.t 42) (.t 43)⟩,
           ⟨some 45, none, .faddr 2 (.t 44)⟩,
           ⟨some 46, none, .load false 1 (.t 45)⟩,
           ⟨some 47, none, .bin .add (.t 46) (.c (.int .u32 1000))⟩,
           ⟨some 48, none, .iaddr (.slc 5) (.t 40) (.t 41)⟩,
           ⟨some 49, none, .faddr 2 (.t 48)⟩,
           ⟨none, none, .store 1 (.t 49) (.t 47)⟩] none)
          .skip))
        (.seq
         (.region [
          ⟨some 50, none, .mv (.t 7)⟩,
          ⟨some 51, none, .mv (.t 50)⟩,
          ⟨some 52, some (51, true), .mv (.t 8)⟩,
          ⟨some 53, some (51, true), .mv (.t 9)⟩,
          ⟨some 54, some (51, true), .slice (.slc 5) (.t 52) none (some (.t 53)) none⟩,
          ⟨some 55, some (51, true), .mv (.t 8)⟩,
          ⟨some 56, some (51, true), .mv (.t 10)⟩,
          ⟨some 57, some (51, true), .slice (.slc 5) (.t 55) none (some (.t 56)) none⟩,
          ⟨some 58, some (51, true), .call 15 [(.t 54), (.t 57)]⟩,
          ⟨some 59, none, .pick (.t 51) (.t 58) (.c (.bool false))⟩,
          ⟨some 60, none, .mv (.t 59)⟩,
          ⟨some 61, some (60, true), .mv (.t 8)⟩,
          ⟨some 62, some (60, true), .mv (.t 10)⟩,
          ⟨some 63, some (60, true), .slice (.slc 5) (.t 61) none (some (.t 62)) none⟩,
          ⟨some 64, some (60, true), .mv (.t 8)⟩,
          ⟨some 65, some (60, true), .mv (.t 9)⟩,
          ⟨some 66, some (60, true), .slice (.slc 5) (.t 64) none (some (.t 65)) none⟩,
          ⟨some 67, some (60, true), .call 15 [(.t 63), (.t 66)]⟩,
          ⟨some 68, none, .pick (.t 60) (.t 67) (.c (.bool false))⟩,
          ⟨some 69, none, .mv (.t 68)⟩,
          ⟨some 70, some (69, true), .mv (.t 8)⟩,
          ⟨some 71, some (69, true), .mv (.t 8)⟩,
          ⟨some 72, some (69, true), .call 15 [(.t 70), (.t 71)]⟩,
          ⟨some 73, none, .pick (.t 69) (.t 72) (.c (.bool false))⟩,
          ⟨some 74, none, .mv (.t 73)⟩,
          ⟨some 75, some (74, true), .mv (.t 8)⟩,
          ⟨some 76, some (74, true), .call 15 [(.c (.slc 0 true [])), (.t 75)]⟩,
          ⟨some 77, none, .pick (.t 74) (.t 76) (.c (.bool false))⟩,
          ⟨some 78, none, .mv (.t 77)⟩,
          ⟨some 79, some (78, true), .mv (.t 9)⟩,
          ⟨some 80, some (78, true), .mv (.t 8)⟩,
          ⟨some 81, some (78, true), .len .slc (.t 80)⟩,
          ⟨some 82, some (78, true), .bin .eql (.t 79) (.t 81)⟩,
          ⟨some 83, some (78, true), .mv (.t 82)⟩,
          ⟨some 84, some (83, false), .mv (.t 11)⟩,
          ⟨some 85, some (83, false), .mv (.t 9)⟩,
          ⟨some 86, some (83, false), .bin .add (.t 85) (.c (.int .i64 1))⟩,
          ⟨some 87, some (83, false), .slice (.slc 5) (.t 84) none (some (.t 86)) none⟩,
          ⟨some 88, some (83, false), .mv (.t 8)⟩,
          ⟨some 89, some (83, false), .call 15 [(.t 87), (.t 88)]⟩,
          ⟨some 90, some (83, false), .un .not (.t 89)⟩,
          ⟨some 91, some (78, true), .pick (.t 83) (.c (.bool true)) (.t 90)⟩,
          ⟨some 92, none, .pick (.t 78) (.t 91) (.c (.bool false))⟩,
          ⟨some 6, none, .mv (.t 92)⟩] (some (39, [0, 1, 3, 3, 15, 3, 3, 99, 255, 511, 1023, 2047, 2047, 8191, 2047, 2047, 51199, 131071, 262143, 524287, 1048575, 1048575, 4194303, 8388607, 16777215, 33554431, 67108863, 134217727, 268435455, 536870911, 536870911, 1610612735, 4294967295, 8589934591, 17179869183, 17179869183, 51539607551, 137438953471, 17179869183, 549755813887, 1099511627775, 2199023255551, 4398046511103, 8796093022207], 9042417986699264)))
         .ret)))))))))⟩
theorem nf4_ok : compF Try.prog 4 = some nf4 := by kernel_rfl

/-- comitia/comitialaw23.JudgeHonest -/
def nf5 : NF := ⟨78, [.tmp 4],
 (.seq
 (.region [
  ⟨some 4, none, .mv (.c (.bool false))⟩] none)
 (.seq
  (.region [
   ⟨some 13, none, .call 8 []⟩,
   ⟨some 5, none, .mv (.t 13)⟩] none)
  (.seq
   (.seq
    (.region [
     ⟨some 14, none, .mv (.t 5)⟩,
     ⟨some 15, none, .un .not (.t 14)⟩] none)
    (.cond (.t 15)
     (.seq
      (.region [
       ⟨some 4, none, .mv (.c (.bool false))⟩] none)
      .ret)
     .skip))
   (.seq
    (.region [
     ⟨some 6, none, .mv (.c (.slc 0 true []))⟩] none)
    (.seq
     (.seq
      (.region [
       ⟨some 7, none, .mv (.c (.int .i64 0))⟩] none)
      (.block 0 (.loop (.seq
         (.seq
          (.region [
           ⟨some 16, none, .mv (.t 7)⟩,
           ⟨some 17, none, .mv (.t 0)⟩,
           ⟨some 18, none, .len .slc (.t 17)⟩,
           ⟨some 19, none, .bin .lss (.t 16) (.t 18)⟩,
           ⟨some 20, none, .mv (.t 19)⟩,
           ⟨some 21, some (20, true), .mv (.t 7)⟩,
           ⟨some 22, some (20, true), .bin .lss (.t 21) (.c (.int .i64 12))⟩,
           ⟨some 23, none, .pick (.t 20) (.t 22) (.c (.bool false))⟩] none)
          (.cond (.t 23)
           .skip
           (.exit 0)))
         (.seq
          (.block 1 (.seq
            (.region [
             ⟨some 26, none, .mv (.t 0)⟩,
             ⟨some 27, none, .mv (.t 7)⟩,
             ⟨some 28, none, .iaddr (.slc 6) (.t 26) (.t 27)⟩,
             ⟨some 29, none, .load true 6 (.t 28)⟩,
             ⟨some 8, none, .new [.int .i64 0, .int .i64 0, .int .u32 0, .str ByteArray.empty, .str ByteArray.empty, .bool false]⟩,
             ⟨none, none, .store 6 (.t 8) (.t 29)⟩] none)
            (.seq
             (.region [
              ⟨some 30, none, .faddr 5 (.t 8)⟩,
              ⟨none, none, .store 1 (.t 30) (.c (.bool true))⟩] none)
             (.region [
              ⟨some 31, none, .mv (.t 6)⟩,
              ⟨some 32, none, .load true 6 (.t 8)⟩,
              ⟨some 33, none, .bslc 6 1 [.int .i64 0, .int .i64 0, .int .u32 0, .str ByteArray.empty, .str ByteArray.empty, .bool false] [(0, 6, (.t 32))]⟩,
              ⟨some 34, none, .app 6 64 (.t 31) (.t 33)⟩,
              ⟨some 6, none, .mv (.t 34)⟩] none))))
          (.region [
           ⟨some 24, none, .mv (.t 7)⟩,
           ⟨some 25, none, .bin .add (.t 24) (.c (.int .i64 1))⟩,
           ⟨some 7, none, .mv (.t 25)⟩] none))))))
     (.seq
      (.region [
       ⟨some 35, none, .mv (.t 6)⟩,
       ⟨some 36, none, .call 9 [(.t 35)]⟩,
       ⟨some 9, none, .mv (.t 36)⟩] none)
      (.seq
       (.region [
        ⟨some 37, none, .mv (.t 9)⟩,
        ⟨some 38, none, .call 12 [(.t 37)]⟩,
        ⟨some 10, none, .mv (.t 38)⟩] none)
       (.seq
        (.region [
         ⟨some 40, none, .mv (.t 6)⟩,
         ⟨some 41, none, .mv (.t 1)⟩,
         ⟨some 42, none, .call 23 [(.t 40), (.t 41)]⟩,
         ⟨some 39, none, .mv (.t 42)⟩,
         ⟨some 43, none, .ext (.t 39) 0⟩,
         ⟨some 44, none, .ext (.t 39) 1⟩,
         ⟨some 11, none, .mv (.t 43)⟩,
         ⟨some 12, none, .mv (.t 44)⟩] none)
        (.seq
         (.region [
          ⟨some 45, none, .mv (.t 5)⟩,
          ⟨some 46, none, .mv (.t 45)⟩,
          ⟨some 47, some (46, true), .mv (.t 9)⟩,
          ⟨some 48, some (46, true), .mv (.t 11)⟩,
          ⟨some 49, some (46, true), .call 21 [(.t 47), (.t 48)]⟩,
          ⟨some 50, none, .pick (.t 46) (.t 49) (.c (.bool false))⟩,
          ⟨some 51, none, .mv (.t 50)⟩,
          ⟨some 52, some (51, true), .mv (.t 10)⟩,
          ⟨some 53, some (51, true), .len .slc (.t 52)⟩,
          ⟨some 54, some (51, true), .bin .eql (.t 53) (.c (.int .i64 0))⟩,
          ⟨some 55, some (51, true), .mv (.t 54)⟩,
          ⟨some 56, some (55, false), .mv (.t 9)⟩,
          ⟨some 57, some (55, false), .mv (.t 12)⟩,
          ⟨some 58, some (55, false), .call 21 [(.t 56), (.t 57)]⟩,
          ⟨some 59, some (55, false), .un .not (.t 58)⟩,
          ⟨some 60, some (51, true), .pick (.t 55) (.c (.bool true)) (.t 59)⟩,
          ⟨some 61, none, .pick (.t 51) (.t 60) (.c (.bool false))⟩,
          ⟨some 62, none, .mv (.t 61)⟩,
          ⟨some 63, some (62, true), .mv (.t 9)⟩,
          ⟨some 64, some (62, true), .mv (.t 11)⟩,
          ⟨some 65, some (62, true), .call 19 [(.t 63), (.t 64)]⟩,
          ⟨some 66, none, .pick (.t 62) (.t 65) (.c (.bool false))⟩,
          ⟨some 67, none, .mv (.t 66)⟩,
          ⟨some 68, some (67, true), .mv (.t 11)⟩,
          ⟨some 69, some (67, true), .call 21 [(.c (.slc 0 true [])), (.t 68)]⟩,
          ⟨some 70, none, .pick (.t 67) (.t 69) (.c (.bool false))⟩,
          ⟨some 71, none, .mv (.t 70)⟩,
          ⟨some 72, some (71, true), .mv (.t 10)⟩,
          ⟨some 73, some (71, true), .len .slc (.t 72)⟩,
          ⟨some 74, some (71, true), .mv (.t 9)⟩,
          ⟨some 75, some (71, true), .len .slc (.t 74)⟩,
          ⟨some 76, some (71, true), .bin .leq (.t 73) (.t 75)⟩,
          ⟨some 77, none, .pick (.t 71) (.t 76) (.c (.bool false))⟩,
          ⟨some 4, none, .mv (.t 77)⟩] none)
         .ret)))))))))⟩
theorem nf5_ok : compF Try.prog 5 = some nf5 := by kernel_rfl

/-- comitia/comitialaw23.JudgeOnce -/
def nf6 : NF := ⟨96, [.tmp 4],
 (.seq
 (.region [
  ⟨some 4, none, .mv (.c (.bool false))⟩] none)
 (.seq
  (.region [
   ⟨some 13, none, .call 8 []⟩,
   ⟨some 5, none, .mv (.t 13)⟩] none)
  (.seq
   (.seq
    (.region [
     ⟨some 14, none, .mv (.t 5)⟩,
     ⟨some 15, none, .un .not (.t 14)⟩] none)
    (.cond (.t 15)
     (.seq
      (.region [
       ⟨some 4, none, .mv (.c (.bool false))⟩] none)
      .ret)
     .skip))
   (.seq
    (.region [
     ⟨some 6, none, .mv (.c (.slc 0 true []))⟩] none)
    (.seq
     (.region [
      ⟨some 7, none, .mv (.c (.slc 0 true []))⟩] none)
     (.seq
      (.seq
       (.region [
        ⟨some 8, none, .mv (.c (.int .i64 0))⟩] none)
       (.block 0 (.loop (.seq
          (.seq
           (.region [
            ⟨some 16, none, .mv (.t 8)⟩,
            ⟨some 17, none, .mv (.t 0)⟩,
            ⟨some 18, none, .len .slc (.t 17)⟩,
            ⟨some 19, none, .bin .lss (.t 16) (.t 18)⟩,
            ⟨some 20, none, .mv (.t 19)⟩,
            ⟨some 21, some (20, true), .mv (.t 8)⟩,
            ⟨some 22, some (20, true), .bin .lss (.t 21) (.c (.int .i64 12))⟩,
            ⟨some 23, none, .pick (.t 20) (.t 22) (.c (.bool false))⟩] none)
           (.cond (.t 23)
            .skip
            (.exit 0)))
          (.seq
           (.block 1 (.seq
             (.region [
              ⟨some 26, none, .mv (.t 0)⟩,
              ⟨some 27, none, .mv (.t 8)⟩,
              ⟨some 28, none, .iaddr (.slc 6) (.t 26) (.t 27)⟩,
              ⟨some 29, none, .load true 6 (.t 28)⟩,
              ⟨some 9, none, .new [.int .i64 0, .int .i64 0, .int .u32 0, .str ByteArray.empty, .str ByteArray.empty, .bool false]⟩,
              ⟨none, none, .store 6 (.t 9) (.t 29)⟩] none)
             (.seq
              (.region [
               ⟨some 30, none, .faddr 5 (.t 9)⟩,
               ⟨none, none, .store 1 (.t 30) (.c (.bool true))⟩] none)
              (.seq
               (.region [
                ⟨some 31, none, .load true 6 (.t 9)⟩,
                ⟨some 32, none, .call 24 [(.t 31)]⟩,
                ⟨some 10, none, .new [.int .i64 0, .int .i64 0, .int .u32 0, .str ByteArray.empty, .str ByteArray.empty]⟩,
                ⟨none, none, .store 5 (.t 10) (.t 32)⟩] none)
               (.seq
                (.region [
                 ⟨some 33, none, .mv (.t 8)⟩,
                 ⟨some 34, none, .bin .add (.t 33) (.c (.int .i64 1))⟩,
                 ⟨some 35, none, .i2i .u32 (.t 34)⟩,
                 ⟨some 36, none, .faddr 2 (.t 10)⟩,
                 ⟨none, none, .store 1 (.t 36) (.t 35)⟩] none)
                (.seq
                 (.region [
                  ⟨some 37, none, .mv (.t 6)⟩,
                  ⟨some 38, none, .load true 5 (.t 10)⟩,
                  ⟨some 39, none, .bslc 5 1 [.int .i64 0, .int .i64 0, .int .u32 0, .str ByteArray.empty, .str ByteArray.empty] [(0, 5, (.t 38))]⟩,
                  ⟨some 40, none, .app 5 56 (.t 37) (.t 39)⟩,
                  ⟨some 6, none, .mv (.t 40)⟩] none)
                 (.region [
                  ⟨some 41, none, .mv (.t 7)⟩,
                  ⟨some 42, none, .load true 5 (.t 10)⟩,
                  ⟨some 43, none, .build [.int .i64 0, .int .i64 0, .int .i64 0, .int .i64 0, .int .u32 0, .str ByteArray.empty, .str ByteArray.empty, .int .i64 0, .int .i64 0, .int .i64 0, .int .u32 0, .bool false, .str ByteArray.empty] [(0, 1, (.c (.int .i64 1))), (2, 5, (.t 42))]⟩,
                  ⟨some 44, none, .bslc 13 1 [.int .i64 0, .int .i64 0, .int .i64 0, .int .i64 0, .int .u32 0, .str ByteArray.empty, .str ByteArray.empty, .int .i64 0, .int .i64 0, .int .i64 0, .int .u32 0, .bool false, .str ByteArray.empty] [(0, 13, (.t 43))]⟩,
                  ⟨some 45, none, .app 13 120 (.t 41) (.t 44)⟩,
                  ⟨some 7, none, .mv (.t 45)⟩] none)))))))
           (.region [
            ⟨some 24, none, .mv (.t 8)⟩,
            ⟨some 25, none, .bin .add (.t 24) (.c (.int .i64 1))⟩,
            ⟨some 8, none, .mv (.t 25)⟩] none))))))
      (.seq
       (.seq
        (.region [
         ⟨some 46, none, .mv (.t 6)⟩,
         ⟨some 47, none, .len .slc (.t 46)⟩,
         ⟨some 48, none, .bin .eql (.t 47) (.c (.int .i64 0))⟩] none)
        (.cond (.t 48)
         (.seq
          (.region [
           ⟨some 49, none, .mv (.t 5)⟩,
           ⟨some 50, none, .mv (.t 49)⟩,
           ⟨some 51, some (50, true), .call 17 [(.c (.slc 0 true []))]⟩,
           ⟨some 52, none, .pick (.t 50) (.t 51) (.c (.bool false))⟩,
           ⟨some 53, none, .mv (.t 52)⟩,
           ⟨some 54, some (53, true), .call 19 [(.c (.slc 0 true [])), (.c (.slc 0 true []))]⟩,
           ⟨some 55, none, .pick (.t 53) (.t 54) (.c (.bool false))⟩,
           ⟨some 4, none, .mv (.t 55)⟩] none)
          .ret)
         .skip))
       (.seq
        (.region [
         ⟨some 56, none, .mv (.t 1)⟩,
         ⟨some 57, none, .i2i .i64 (.t 56)⟩,
         ⟨some 58, none, .mv (.t 6)⟩,
         ⟨some 59, none, .len .slc (.t 58)⟩,
         ⟨some 60, none, .bin .rem (.t 57) (.t 59)⟩,
         ⟨some 11, none, .mv (.t 60)⟩] none)
        (.seq
         (.region [
          ⟨some 61, none, .mv (.t 6)⟩,
          ⟨some 62, none, .app 5 56 (.c (.slc 0 true [])) (.t 61)⟩,
          ⟨some 63, none, .mv (.t 6)⟩,
          ⟨some 64, none, .mv (.t 11)⟩,
          ⟨some 65, none, .iaddr (.slc 5) (.t 63) (.t 64)⟩,
          ⟨some 66, none, .load true 5 (.t 65)⟩,
          ⟨some 67, none, .bslc 5 1 [.int .i64 0, .int .i64 0, .int .u32 0, .str ByteArray.empty, .str ByteArray.empty] [(0, 5, (.t 66))]⟩,
          ⟨some 68, none, .app 5 56 (.t 62) (.t 67)⟩,
          ⟨some 12, none, .mv (.t 68)⟩] (some (7, [0, 1, 0, 0, 12, 28, 60, 127, 255], 0)))
         (.seq
          (.region [
           ⟨some 69, none, .mv (.t 7)⟩,
           ⟨some 70, none, .mv (.t 11)⟩,
           ⟨some 71, none, .iaddr (.slc 13) (.t 69) (.t 70)⟩,
           ⟨some 72, none, .faddr 0 (.t 71)⟩,
           ⟨none, none, .store 1 (.t 72) (.c (.int .i64 2))⟩] none)
          (.seq
           (.region [
            ⟨some 73, none, .mv (.t 5)⟩,
            ⟨some 74, none, .mv (.t 73)⟩,
            ⟨some 75, some (74, true), .mv (.t 6)⟩,
            ⟨some 76, some (74, true), .call 17 [(.t 75)]⟩,
            ⟨some 77, none, .pick (.t 74) (.t 76) (.c (.bool false))⟩,
            ⟨some 78, none, .mv (.t 77)⟩,
            ⟨some 79, some (78, true), .mv (.t 12)⟩,
            ⟨some 80, some (78, true), .call 17 [(.t 79)]⟩,
            ⟨some 81, some (78, true), .un .not (.t 80)⟩,
            ⟨some 82, none, .pick (.t 78) (.t 81) (.c (.bool false))⟩,
            ⟨some 83, none, .mv (.t 82)⟩,
            ⟨some 84, some (83, true), .mv (.t 6)⟩,
            ⟨some 85, some (83, true), .mv (.t 7)⟩,
            ⟨some 86, some (83, true), .call 19 [(.t 84), (.t 85)]⟩,
            ⟨some 87, some (83, true), .un .not (.t 86)⟩,
            ⟨some 88, none, .pick (.t 83) (.t 87) (.c (.bool false))⟩,
            ⟨some 89, none, .mv (.t 88)⟩,
            ⟨some 90, some (89, true), .mv (.t 6)⟩,
            ⟨some 91, some (89, true), .mv (.t 11)⟩,
            ⟨some 92, some (89, true), .slice (.slc 5) (.t 90) none (some (.t 91)) none⟩,
            ⟨some 93, some (89, true), .mv (.t 7)⟩,
            ⟨some 94, some (89, true), .call 19 [(.t 92), (.t 93)]⟩,
            ⟨some 95, none, .pick (.t 89) (.t 94) (.c (.bool false))⟩,
            ⟨some 4, none, .mv (.t 95)⟩] none)
           .ret)))))))))))⟩
theorem nf6_ok : compF Try.prog 6 = some nf6 := by kernel_rfl

/-- comitia/comitialaw23.JudgeReplay -/
def nf7 : NF := ⟨93, [.tmp 4],
 (.seq
 (.region [
  ⟨some 4, none, .mv (.c (.bool false))⟩] none)
 (.seq
  (.region [
   ⟨some 13, none, .call 8 []⟩,
   ⟨some 5, none, .mv (.t 13)⟩] none)
  (.seq
   (.seq
    (.region [
     ⟨some 14, none, .mv (.t 5)⟩,
     ⟨some 15, none, .un .not (.t 14)⟩] none)
    (.cond (.t 15)
     (.seq
      (.region [
       ⟨some 4, none, .mv (.c (.bool false))⟩] none)
      .ret)
     .skip))
   (.seq
    (.region [
     ⟨some 16, none, .mv (.t 0)⟩,
     ⟨some 17, none, .call 9 [(.t 16)]⟩,
     ⟨some 6, none, .mv (.t 17)⟩] none)
    (.seq
     (.region [
      ⟨some 18, none, .mv (.t 1)⟩,
      ⟨some 19, none, .i2i .i64 (.t 18)⟩,
      ⟨some 20, none, .mv (.t 6)⟩,
      ⟨some 21, none, .len .slc (.t 20)⟩,
      ⟨some 22, none, .bin .add (.t 21) (.c (.int .i64 1))⟩,
      ⟨some 23, none, .bin .rem (.t 19) (.t 22)⟩,
      ⟨some 7, none, .mv (.t 23)⟩] none)
     (.seq
      (.region [
       ⟨some 24, none, .mv (.t 6)⟩,
       ⟨some 25, none, .call 12 [(.t 24)]⟩,
       ⟨some 8, none, .mv (.t 25)⟩] none)
      (.seq
       (.region [
        ⟨some 26, none, .mv (.t 6)⟩,
        ⟨some 27, none, .mv (.t 7)⟩,
        ⟨some 28, none, .slice (.slc 5) (.t 26) none (some (.t 27)) none⟩,
        ⟨some 29, none, .call 12 [(.t 28)]⟩,
        ⟨some 9, none, .mv (.t 29)⟩] none)
       (.seq
        (.seq
         (.region [
          ⟨some 30, none, .mv (.t 9)⟩,
          ⟨some 31, none, .len .slc (.t 30)⟩,
          ⟨some 32, none, .mv (.t 8)⟩,
          ⟨some 33, none, .len .slc (.t 32)⟩,
          ⟨some 34, none, .bin .gtr (.t 31) (.t 33)⟩,
          ⟨some 35, none, .mv (.t 34)⟩,
          ⟨some 36, some (35, false), .mv (.t 8)⟩,
          ⟨some 37, some (35, false), .len .slc (.t 36)⟩,
          ⟨some 38, some (35, false), .mv (.t 6)⟩,
          ⟨some 39, some (35, false), .len .slc (.t 38)⟩,
          ⟨some 40, some (35, false), .bin .gtr (.t 37) (.t 39)⟩,
          ⟨some 41, none, .pick (.t 35) (.c (.bool true)) (.t 40)⟩] none)
         (.cond (.t 41)
          (.seq
           (.region [
            ⟨some 4, none, .mv (.c (.bool false))⟩] none)
           .ret)
          .skip))
        (.seq
         (.seq
          (.region [
           ⟨some 10, none, .mv (.c (.int .i64 0))⟩] none)
          (.block 0 (.loop (.seq
             (.seq
              (.region [
               ⟨some 42, none, .mv (.t 10)⟩,
               ⟨some 43, none, .mv (.t 9)⟩,
               ⟨some 44, none, .len .slc (.t 43)⟩,
               ⟨some 45, none, .bin .lss (.t 42) (.t 44)⟩] none)
              (.cond (.t 45)
               .skip
               (.exit 0)))
             (.seq
              (.block 1 (.seq
                (.region [
                 ⟨some 48, none, .mv (.t 8)⟩,
                 ⟨some 49, none, .mv (.t 10)⟩,
                 ⟨some 50, none, .iaddr (.slc 4) (.t 48) (.t 49)⟩,
                 ⟨some 51, none, .load true 4 (.t 50)⟩,
                 ⟨some 52, none, .mv (.t 9)⟩,
                 ⟨some 53, none, .mv (.t 10)⟩,
                 ⟨some 54, none, .iaddr (.slc 4) (.t 52) (.t 53)⟩,
                 ⟨some 55, none, .load true 4 (.t 54)⟩,
                 ⟨some 56, none, .eq (.key ⟨true, [.int, .int, .bool, .str]⟩) true (.t 51) (.t 55)⟩] (some (8, [0, 0, 3, 7, 0, 0, 48, 112, 255], 0)))
                (.cond (.t 56)
                 (.seq
                  (.region [
                   ⟨some 4, none, .mv (.c (.bool false))⟩] none)
                  .ret)
                 .skip)))
              (.region [
               ⟨some 46, none, .mv (.t 10)⟩,
               ⟨some 47, none, .bin .add (.t 46) (.c (.int .i64 1))⟩,
               ⟨some 10, none, .mv (.t 47)⟩] none))))))
         (.seq
          (.seq
           (.region [
            ⟨some 11, none, .mv (.c (.int .i64 0))⟩] none)
           (.block 2 (.loop (.seq
              (.seq
               (.region [
                ⟨some 57, none, .mv (.t 11)⟩,
                ⟨some 58, none, .mv (.t 8)⟩,
                ⟨some 59, none, .len .slc (.t 58)⟩,
                ⟨some 60, none, .bin .lss (.t 57) (.t 59)⟩] none)
               (.cond (.t 60)
                .skip
                (.exit 2)))
              (.seq
               (.block 3 (.seq
                 (.region [
                  ⟨some 12, none, .mv (.c (.int .i64 0))⟩] none)
                 (.block 4 (.loop (.seq
                    (.seq
                     (.region [
                      ⟨some 63, none, .mv (.t 12)⟩,
                      ⟨some 64, none, .mv (.t 11)⟩,
                      ⟨some 65, none, .bin .lss (.t 63) (.t 64)⟩] none)
                     (.cond (.t 65)
                      .skip
                      (.exit 4)))
                    (.seq
                     (.block 5 (.seq
                       (.region [
                        ⟨some 68, none, .mv (.t 8)⟩,
                        ⟨some 69, none, .mv (.t 11)⟩,
                        ⟨some 70, none, .iaddr (.slc 4) (.t 68) (.t 69)⟩,
                        ⟨some 71, none, .faddr 0 (.t 70)⟩,
                        ⟨some 72, none, .load false 1 (.t 71)⟩,
                        ⟨some 73, none, .mv (.t 8)⟩,
                        ⟨some 74, none, .mv (.t 12)⟩,
                        ⟨some 75, none, .iaddr (.slc 4) (.t 73) (.t 74)⟩,
                        ⟨some 76, none, .faddr 0 (.t 75)⟩,
                        ⟨some 77, none, .load false 1 (.t 76)⟩,
                        ⟨some 78, none, .bin .eql (.t 72) (.t 77)⟩,
                        ⟨some 79, none, .mv (.t 78)⟩,
                        ⟨some 80, some (79, true), .mv (.t 8)⟩,
                        ⟨some 81, some (79, true), .mv (.t 11)⟩,
                        ⟨some 82, some (79, true), .iaddr (.slc 4) (.t 80) (.t 81)⟩,
                        ⟨some 83, some (79, true), .faddr 1 (.t 82)⟩,
                        ⟨some 84, some (79, true), .load false 1 (.t 83)⟩,
                        ⟨some 85, some (79, true), .mv (.t 8)⟩,
                        ⟨some 86, some (79, true), .mv (.t 12)⟩,
                        ⟨some 87, some (79, true), .iaddr (.slc 4) (.t 85) (.t 86)⟩,
                        ⟨some 88, some (79, true), .faddr 1 (.t 87)⟩,
                        ⟨some 89, some (79, true), .load false 1 (.t 88)⟩,
                        ⟨some 90, some (79, true), .bin .eql (.t 84) (.t 89)⟩,
                        ⟨some 91, none, .pick (.t 79) (.t 90) (.c (.bool false))⟩] (some (22, [0, 0, 3, 7, 15, 0, 0, 96, 224, 480, 1023, 2047, 4095, 4095, 16383, 32767, 65535, 4095, 4095, 397311, 921599, 1970175, 4194303, 8388607], 0)))
                       (.cond (.t 91)
                        (.seq
                         (.region [
                          ⟨some 4, none, .mv (.c (.bool false))⟩] none)
                         .ret)
                        .skip)))
                     (.region [
                      ⟨some 66, none, .mv (.t 12)⟩,
                      ⟨some 67, none, .bin .add (.t 66) (.c (.int .i64 1))⟩,
                      ⟨some 12, none, .mv (.t 67)⟩] none)))))))
               (.region [
                ⟨some 61, none, .mv (.t 11)⟩,
                ⟨some 62, none, .bin .add (.t 61) (.c (.int .i64 1))⟩,
                ⟨some 11, none, .mv (.t 62)⟩] none))))))
          (.seq
           (.region [
            ⟨some 92, none, .mv (.t 5)⟩,
            ⟨some 4, none, .mv (.t 92)⟩] none)
           .ret)))))))))))⟩
theorem nf7_ok : compF Try.prog 7 = some nf7 := by kernel_rfl

/-- comitia/comitialaw23.examples -/
def nf8 : NF := ⟨92, [.tmp 0],
 (.seq
 (.region [
  ⟨some 0, none, .mv (.c (.bool false))⟩] none)
 (.seq
  (.region [
   ⟨some 7, none, .build [.int .i64 0, .int .i64 0, .int .u32 0, .str ByteArray.empty, .str ByteArray.empty] [(0, 1, (.c (.int .i64 1))), (1, 1, (.c (.int .i64 1))), (2, 1, (.c (.int .u32 1))), (3, 1, (.c (.str ⟨#[107]⟩))), (4, 1, (.c (.str ⟨#[118]⟩)))]⟩,
   ⟨some 1, none, .new [.int .i64 0, .int .i64 0, .int .u32 0, .str ByteArray.empty, .str ByteArray.empty]⟩,
   ⟨none, none, .store 5 (.t 1) (.t 7)⟩] none)
  (.seq
   (.region [
    ⟨some 8, none, .build [.int .i64 0, .int .i64 0, .int .u32 0, .str ByteArray.empty, .str ByteArray.empty] [(0, 1, (.c (.int .i64 2))), (1, 1, (.c (.int .i64 2))), (2, 1, (.c (.int .u32 1))), (3, 1, (.c (.str ⟨#[107]⟩)))]⟩,
    ⟨some 2, none, .new [.int .i64 0, .int .i64 0, .int .u32 0, .str ByteArray.empty, .str ByteArray.empty]⟩,
    ⟨none, none, .store 5 (.t 2) (.t 8)⟩] none)
   (.seq
    (.region [
     ⟨some 9, none, .load true 5 (.t 1)⟩,
     ⟨some 10, none, .load true 5 (.t 2)⟩,
     ⟨some 11, none, .bslc 5 2 [.int .i64 0, .int .i64 0, .int .u32 0, .str ByteArray.empty, .str ByteArray.empty, .int .i64 0, .int .i64 0, .int .u32 0, .str ByteArray.empty, .str ByteArray.empty] [(0, 5, (.t 9)), (5, 5, (.t 10))]⟩,
     ⟨some 3, none, .mv (.t 11)⟩] none)
    (.seq
     (.region [
      ⟨some 12, none, .mv (.t 3)⟩,
      ⟨some 13, none, .call 12 [(.t 12)]⟩,
      ⟨some 4, none, .mv (.t 13)⟩] none)
     (.seq
      (.seq
       (.region [
        ⟨some 14, none, .mv (.t 4)⟩,
        ⟨some 15, none, .len .slc (.t 14)⟩,
        ⟨some 16, none, .bin .neq (.t 15) (.c (.int .i64 2))⟩] none)
       (.cond (.t 16)
        (.seq
         (.region [
          ⟨some 0, none, .mv (.c (.bool false))⟩] none)
         .ret)
        .skip))
      (.seq
       (.region [
        ⟨some 17, none, .load true 5 (.t 2)⟩,
        ⟨some 18, none, .build [.int .i64 0, .int .i64 0, .int .i64 0, .int .i64 0, .int .u32 0, .str ByteArray.empty, .str ByteArray.empty, .int .i64 0, .int .i64 0, .int .i64 0, .int .u32 0, .bool false, .str ByteArray.empty] [(0, 1, (.c (.int .i64 1))), (2, 5, (.t 17))]⟩,
        ⟨some 5, none, .new [.int .i64 0, .int .i64 0, .int .i64 0, .int .i64 0, .int .u32 0, .str ByteArray.empty, .str ByteArray.empty, .int .i64 0, .int .i64 0, .int .i64 0, .int .u32 0, .bool false, .str ByteArray.empty]⟩,
        ⟨none, none, .store 13 (.t 5) (.t 18)⟩] none)
       (.seq
        (.region [
         ⟨some 19, none, .build [.int .i64 0, .int .u32 0, .bool false, .str ByteArray.empty] [(0, 1, (.c (.int .i64 2))), (1, 1, (.c (.int .u32 1)))]⟩,
         ⟨some 20, none, .build [.int .i64 0, .int .i64 0, .int .i64 0, .int .i64 0, .int .u32 0, .str ByteArray.empty, .str ByteArray.empty, .int .i64 0, .int .i64 0, .int .i64 0, .int .u32 0, .bool false, .str ByteArray.empty] [(0, 1, (.c (.int .i64 2))), (9, 4, (.t 19))]⟩,
         ⟨some 6, none, .new [.int .i64 0, .int .i64 0, .int .i64 0, .int .i64 0, .int .u32 0, .str ByteArray.empty, .str ByteArray.empty, .int .i64 0, .int .i64 0, .int .i64 0, .int .u32 0, .bool false, .str ByteArray.empty]⟩,
         ⟨none, none, .store 13 (.t 6) (.t 20)⟩] none)
        (.seq
         (.region [
          ⟨some 21, none, .mv (.t 3)⟩,
          ⟨some 22, none, .slice (.slc 5) (.t 21) none (some (.c (.int .i64 1))) none⟩,
          ⟨some 23, none, .mv (.t 3)⟩,
          ⟨some 24, none, .call 15 [(.t 22), (.t 23)]⟩,
          ⟨some 25, none, .mv (.t 24)⟩,
          ⟨some 26, some (25, true), .load true 5 (.t 2)⟩,
          ⟨some 27, some (25, true), .bslc 5 1 [.int .i64 0, .int .i64 0, .int .u32 0, .str ByteArray.empty, .str ByteArray.empty] [(0, 5, (.t 26))]⟩,
          ⟨some 28, some (25, true), .mv (.t 3)⟩,
          ⟨some 29, some (25, true), .call 15 [(.t 27), (.t 28)]⟩,
          ⟨some 30, some (25, true), .un .not (.t 29)⟩,
          ⟨some 31, none, .pick (.t 25) (.t 30) (.c (.bool false))⟩,
          ⟨some 32, none, .mv (.t 31)⟩,
          ⟨some 33, some (32, true), .mv (.t 3)⟩,
          ⟨some 34, some (32, true), .call 17 [(.t 33)]⟩,
          ⟨some 35, none, .pick (.t 32) (.t 34) (.c (.bool false))⟩,
          ⟨some 36, none, .mv (.t 35)⟩,
          ⟨some 37, some (36, true), .load true 5 (.t 1)⟩,
          ⟨some 38, some (36, true), .load true 5 (.t 1)⟩,
          ⟨some 39, some (36, true), .bslc 5 2 [.int .i64 0, .int .i64 0, .int .u32 0, .str ByteArray.empty, .str ByteArray.empty, .int .i64 0, .int .i64 0, .int .u32 0, .str ByteArray.empty, .str ByteArray.empty] [(0, 5, (.t 37)), (5, 5, (.t 38))]⟩,
          ⟨some 40, some (36, true), .call 17 [(.t 39)]⟩,
          ⟨some 41, some (36, true), .un .not (.t 40)⟩,
          ⟨some 42, none, .pick (.t 36) (.t 41) (.c (.bool false))⟩,
          ⟨some 43, none, .mv (.t 42)⟩,
          ⟨some 44, some (43, true), .mv (.t 3)⟩,
          ⟨some 45, some (43, true), .slice (.slc 5) (.t 44) (some (.c (.int .i64 1))) none none⟩,
          ⟨some 46, some (43, true), .load true 13 (.t 5)⟩,
          ⟨some 47, some (43, true), .bslc 13 1 [.int .i64 0, .int .i64 0, .int .i64 0, .int .i64 0, .int .u32 0, .str ByteArray.empty, .str ByteArray.empty, .int .i64 0, .int .i64 0, .int .i64 0, .int .u32 0, .bool false, .str ByteArray.empty] [(0, 13, (.t 46))]⟩,
          ⟨some 48, some (43, true), .call 19 [(.t 45), (.t 47)]⟩,
          ⟨some 49, none, .pick (.t 43) (.t 48) (.c (.bool false))⟩,
          ⟨some 50, none, .mv (.t 49)⟩,
          ⟨some 51, some (50, true), .mv (.t 3)⟩,
          ⟨some 52, some (50, true), .load true 13 (.t 5)⟩,
          ⟨some 53, some (50, true), .bslc 13 1 [.int .i64 0, .int .i64 0, .int .i64 0, .int .i64 0, .int .u32 0, .str ByteArray.empty, .str ByteArray.empty, .int .i64 0, .int .i64 0, .int .i64 0, .int .u32 0, .bool false, .str ByteArray.empty] [(0, 13, (.t 52))]⟩,
          ⟨some 54, some (50, true), .call 19 [(.t 51), (.t 53)]⟩,
          ⟨some 55, some (50, true), .un .not (.t 54)⟩,
          ⟨some 56, none, .pick (.t 50) (.t 55) (.c (.bool false))⟩,
          ⟨some 57, none, .mv (.t 56)⟩,
          ⟨some 58, some (57, true), .mv (.t 4)⟩,
          ⟨some 59, some (57, true), .iaddr (.slc 4) (.t 58) (.c (.int .i64 1))⟩,
          ⟨some 60, some (57, true), .faddr 3 (.t 59)⟩,
          ⟨some 61, some (57, true), .load false 1 (.t 60)⟩,
          ⟨some 62, some (57, true), .bin .eql (.t 61) (.c (.str ⟨#[118]⟩))⟩,
          ⟨some 63, none, .pick (.t 57) (.t 62) (.c (.bool false))⟩,
          ⟨some 64, none, .mv (.t 63)⟩,
          ⟨some 65, some (64, true), .mv (.t 3)⟩,
          ⟨some 66, some (64, true), .load true 13 (.t 5)⟩,
          ⟨some 67, some (64, true), .mv (.t 4)⟩,
          ⟨some 68, some (64, true), .iaddr (.slc 4) (.t 67) (.c (.int .i64 1))⟩,
          ⟨some 69, some (64, true), .load true 4 (.t 68)⟩,
          ⟨some 70, some (64, true), .build [.int .i64 0, .int .i64 0, .int .i64 0, .int .i64 0, .int .u32 0, .str ByteArray.empty, .str ByteArray.empty, .int .i64 0, .int .i64 0, .int .i64 0, .int .u32 0, .bool false, .str ByteArray.empty] [(0, 1, (.c (.int .i64 2))), (9, 4, (.t 69))]⟩,
          ⟨some 71, some (64, true), .bslc 13 2 [.int .i64 0, .int .i64 0, .int .i64 0, .int .i64 0, .int .u32 0, .str ByteArray.empty, .str ByteArray.empty, .int .i64 0, .int .i64 0, .int .i64 0, .int .u32 0, .bool false, .str ByteArray.empty, .int .i64 0, .int .i64 0, .int .i64 0, .int .i64 0, .int .u32 0, .str ByteArray.empty, .str ByteArray.empty, .int .i64 0, .int .i64 0, .int .i64 0, .int .u32 0, .bool false, .str ByteArray.empty] [(0, 13, (.t 66)), (13, 13, (.t 70))]⟩,
          ⟨some 72, some (64, true), .call 21 [(.t 65), (.t 71)]⟩,
          ⟨some 73, none, .pick (.t 64) (.t 72) (.c (.bool false))⟩,
          ⟨some 74, none, .mv (.t 73)⟩,
          ⟨some 75, some (74, true), .mv (.t 3)⟩,
          ⟨some 76, some (74, true), .load true 13 (.t 5)⟩,
          ⟨some 77, some (74, true), .load true 13 (.t 6)⟩,
          ⟨some 78, some (74, true), .bslc 13 2 [.int .i64 0, .int .i64 0, .int .i64 0, .int .i64 0, .int .u32 0, .str ByteArray.empty, .str ByteArray.empty, .int .i64 0, .int .i64 0, .int .i64 0, .int .u32 0, .bool false, .str ByteArray.empty, .int .i64 0, .int .i64 0, .int .i64 0, .int .i64 0, .int .u32 0, .str ByteArray.empty, .str ByteArray.empty, .int .i64 0, .int .i64 0, .int .i64 0, .int .u32 0, .bool false, .str ByteArray.empty] [(0, 13, (.t 76)), (13, 13, (.t 77))]⟩,
          ⟨some 79, some (74, true), .call 21 [(.t 75), (.t 78)]⟩,
          ⟨some 80, some (74, true), .un .not (.t 79)⟩,
          ⟨some 81, none, .pick (.t 74) (.t 80) (.c (.bool false))⟩,
          ⟨some 82, none, .mv (.t 81)⟩,
          ⟨some 83, some (82, true), .mv (.t 3)⟩,
          ⟨some 84, some (82, true), .mv (.t 4)⟩,
          ⟨some 85, some (82, true), .iaddr (.slc 4) (.t 84) (.c (.int .i64 1))⟩,
          ⟨some 86, some (82, true), .load true 4 (.t 85)⟩,
          ⟨some 87, some (82, true), .build [.int .i64 0, .int .i64 0, .int .i64 0, .int .i64 0, .int .u32 0, .str ByteArray.empty, .str ByteArray.empty, .int .i64 0, .int .i64 0, .int .i64 0, .int .u32 0, .bool false, .str ByteArray.empty] [(0, 1, (.c (.int .i64 2))), (9, 4, (.t 86))]⟩,
          ⟨some 88, some (82, true), .bslc 13 1 [.int .i64 0, .int .i64 0, .int .i64 0, .int .i64 0, .int .u32 0, .str ByteArray.empty, .str ByteArray.empty, .int .i64 0, .int .i64 0, .int .i64 0, .int .u32 0, .bool false, .str ByteArray.empty] [(0, 13, (.t 87))]⟩,
          ⟨some 89, some (82, true), .call 21 [(.t 83), (.t 88)]⟩,
          ⟨some 90, some (82, true), .un .not (.t 89)⟩,
          ⟨some 91, none, .pick (.t 82) (.t 90) (.c (.bool false))⟩,
          ⟨some 0, none, .mv (.t 91)⟩] (some (68, [0, 1, 0, 7, 15, 31, 63, 31, 255, 511, 1023, 2047, 4095, 8191, 16383, 32767, 65535, 65535, 262143, 524287, 1048575, 2097151, 4194303, 8388607, 16777215, 8388607, 41943039, 134217727, 268435455, 536870911, 1073741823, 1073741823, 3221225471, 8589934591, 17179869183, 34359738367, 68719476735, 137438953471, 274877906943, 549755813887, 1099511627775, 2199023255551, 4398046511103, 8796093022207, 17592186044415, 17592186044415, 17592186044415, 87960930222079, 228698418577407, 510173395288063, 1108307720798207, 2251799813685247, 4503599627370495, 9007199254740991, 18014398509481983, 18014398509481983, 18014398509481983, 126100789566373887, 288230376151711743, 576460752303423487, 1152921504606846975, 2305843009213693951, 4611686018427387903, 4611686018427387903, 13835058055282163711, 32281802128991715327, 69175290276410818559, 142962266571249025023, 295147905179352825855, 590295810358705651711, 1180591620717411303423, 2361183241434822606847], 166163640677916457558169792746225792)))
         .ret)))))))))⟩
theorem nf8_ok : compF Try.prog 8 = some nf8 := by kernel_rfl

/-- comitia/comitialaw23.wishes -/
def nf9 : NF := ⟨24, [.tmp 2],
 (.seq
 (.region [
  ⟨some 2, none, .mv (.c (.slc 0 true []))⟩] none)
 (.seq
  (.region [
   ⟨some 3, none, .mv (.c (.slc 0 true []))⟩] none)
  (.seq
   (.seq
    (.region [
     ⟨some 4, none, .mv (.c (.int .i64 0))⟩] none)
    (.block 0 (.loop (.seq
       (.seq
        (.region [
         ⟨some 5, none, .mv (.t 4)⟩,
         ⟨some 6, none, .mv (.t 0)⟩,
         ⟨some 7, none, .len .slc (.t 6)⟩,
         ⟨some 8, none, .bin .lss (.t 5) (.t 7)⟩,
         ⟨some 9, none, .mv (.t 8)⟩,
         ⟨some 10, some (9, true), .mv (.t 4)⟩,
         ⟨some 11, some (9, true), .bin .lss (.t 10) (.c (.int .i64 12))⟩,
         ⟨some 12, none, .pick (.t 9) (.t 11) (.c (.bool false))⟩] none)
        (.cond (.t 12)
         .skip
         (.exit 0)))
       (.seq
        (.block 1 (.region [
          ⟨some 15, none, .mv (.t 3)⟩,
          ⟨some 16, none, .mv (.t 0)⟩,
          ⟨some 17, none, .mv (.t 4)⟩,
          ⟨some 18, none, .iaddr (.slc 6) (.t 16) (.t 17)⟩,
          ⟨some 19, none, .load true 6 (.t 18)⟩,
          ⟨some 20, none, .call 24 [(.t 19)]⟩,
          ⟨some 21, none, .bslc 5 1 [.int .i64 0, .int .i64 0, .int .u32 0, .str ByteArray.empty, .str ByteArray.empty] [(0, 5, (.t 20))]⟩,
          ⟨some 22, none, .app 5 56 (.t 15) (.t 21)⟩,
          ⟨some 3, none, .mv (.t 22)⟩] none))
        (.region [
         ⟨some 13, none, .mv (.t 4)⟩,
         ⟨some 14, none, .bin .add (.t 13) (.c (.int .i64 1))⟩,
         ⟨some 4, none, .mv (.t 14)⟩] none))))))
   (.seq
    (.region [
     ⟨some 23, none, .mv (.t 3)⟩,
     ⟨some 2, none, .mv (.t 23)⟩] none)
    .ret))))⟩
theorem nf9_ok : compF Try.prog 9 = some nf9 := by kernel_rfl

/-- (comitia/comitialaw23.Said).event -/
def nf10 : NF := ⟨38, [.cell 2 true 13],
 (.seq
 (.region [
  ⟨some 1, none, .box (.t 0)⟩,
  ⟨some 2, none, .new [.int .i64 0, .int .i64 0, .int .i64 0, .int .i64 0, .int .u32 0, .str ByteArray.empty, .str ByteArray.empty, .int .i64 0, .int .i64 0, .int .i64 0, .int .u32 0, .bool false, .str ByteArray.empty]⟩] none)
 (.seq
  (.region [
   ⟨some 6, none, .faddr 0 (.t 1)⟩,
   ⟨some 7, none, .load false 1 (.t 6)⟩,
   ⟨some 3, none, .mv (.t 7)⟩] none)
  (.seq
   (.seq
    (.region [
     ⟨some 8, none, .mv (.t 3)⟩,
     ⟨some 9, none, .bin .rem (.t 8) (.c (.int .i64 4))⟩,
     ⟨some 10, none, .bin .gtr (.t 9) (.c (.int .i64 0))⟩] none)
    (.cond (.t 10)
     (.region [
      ⟨some 11, none, .mv (.t 3)⟩,
      ⟨some 12, none, .bin .rem (.t 11) (.c (.int .i64 2))⟩,
      ⟨some 13, none, .bin .add (.t 12) (.c (.int .i64 2))⟩,
      ⟨some 14, none, .bin .rem (.t 13) (.c (.int .i64 2))⟩,
      ⟨some 15, none, .bin .add (.c (.int .i64 1)) (.t 14)⟩,
      ⟨some 3, none, .mv (.t 15)⟩] none)
     .skip))
   (.seq
    (.region [
     ⟨some 16, none, .faddr 7 (.t 1)⟩,
     ⟨some 17, none, .load true 4 (.t 16)⟩,
     ⟨some 4, none, .new [.int .i64 0, .int .u32 0, .bool false, .str ByteArray.empty]⟩,
     ⟨none, none, .store 4 (.t 4) (.t 17)⟩] none)
    (.seq
     (.seq
      (.region [
       ⟨some 18, none, .faddr 11 (.t 1)⟩,
       ⟨some 19, none, .load false 1 (.t 18)⟩] none)
      (.cond (.t 19)
       (.seq
        (.region [
         ⟨some 20, none, .faddr 1 (.t 1)⟩,
         ⟨some 21, none, .load true 6 (.t 20)⟩,
         ⟨some 22, none, .call 24 [(.t 21)]⟩,
         ⟨some 5, none, .new [.int .i64 0, .int .i64 0, .int .u32 0, .str ByteArray.empty, .str ByteArray.empty]⟩,
         ⟨none, none, .store 5 (.t 5) (.t 22)⟩] none)
        (.region [
         ⟨some 23, none, .faddr 1 (.t 5)⟩,
         ⟨some 24, none, .load false 1 (.t 23)⟩,
         ⟨some 25, none, .faddr 2 (.t 5)⟩,
         ⟨some 26, none, .load false 1 (.t 25)⟩,
         ⟨some 27, none, .faddr 2 (.t 4)⟩,
         ⟨some 28, none, .load false 1 (.t 27)⟩,
         ⟨some 29, none, .faddr 4 (.t 5)⟩,
         ⟨some 30, none, .load false 1 (.t 29)⟩,
         ⟨some 31, none, .build [.int .i64 0, .int .u32 0, .bool false, .str ByteArray.empty] [(0, 1, (.t 24)), (1, 1, (.t 26)), (2, 1, (.t 28)), (3, 1, (.t 30))]⟩,
         ⟨none, none, .store 4 (.t 4) (.t 31)⟩] none))
       .skip))
     (.seq
      (.region [
       ⟨some 32, none, .mv (.t 3)⟩,
       ⟨some 33, none, .faddr 1 (.t 1)⟩,
       ⟨some 34, none, .load true 6 (.t 33)⟩,
       ⟨some 35, none, .call 24 [(.t 34)]⟩,
       ⟨some 36, none, .load true 4 (.t 4)⟩,
       ⟨some 37, none, .build [.int .i64 0, .int .i64 0, .int .i64 0, .int .i64 0, .int .u32 0, .str ByteArray.empty, .str ByteArray.empty, .int .i64 0, .int .i64 0, .int .i64 0, .int .u32 0, .bool false, .str ByteArray.empty] [(0, 1, (.t 32)), (2, 5, (.t 35)), (9, 4, (.t 36))]⟩,
       ⟨none, none, .store 13 (.t 2) (.t 37)⟩] (some (5, [0, 0, 2, 6, 0, 31, 63], 128)))
      .ret))))))⟩
theorem nf10_ok : compF Try.prog 10 = some nf10 := by kernel_rfl

/-- comitia/comitialaw23.refCmd -/
def nf11 : NF := ⟨14, [.cell 2 true 5],
 (.seq
 (.region [
  ⟨some 1, none, .box (.t 0)⟩,
  ⟨some 2, none, .new [.int .i64 0, .int .i64 0, .int .u32 0, .str ByteArray.empty, .str ByteArray.empty]⟩] none)
 (.seq
  (.region [
   ⟨some 3, none, .faddr 0 (.t 1)⟩,
   ⟨some 4, none, .load false 1 (.t 3)⟩,
   ⟨some 5, none, .faddr 1 (.t 1)⟩,
   ⟨some 6, none, .load false 1 (.t 5)⟩,
   ⟨some 7, none, .faddr 2 (.t 1)⟩,
   ⟨some 8, none, .load false 1 (.t 7)⟩,
   ⟨some 9, none, .faddr 3 (.t 1)⟩,
   ⟨some 10, none, .load false 1 (.t 9)⟩,
   ⟨some 11, none, .faddr 4 (.t 1)⟩,
   ⟨some 12, none, .load false 1 (.t 11)⟩,
   ⟨some 13, none, .build [.int .i64 0, .int .i64 0, .int .u32 0, .str ByteArray.empty, .str ByteArray.empty] [(0, 1, (.t 4)), (1, 1, (.t 6)), (2, 1, (.t 8)), (3, 1, (.t 10)), (4, 1, (.t 12))]⟩,
   ⟨none, none, .store 5 (.t 2) (.t 13)⟩] none)
  .ret))⟩
theorem nf11_ok : compF Try.prog 11 = some nf11 := by kernel_rfl

/-- comitia/judge.Replay -/
def nf12 : NF := ⟨29, [.tmp 2],
 (.seq
 (.region [
  ⟨some 2, none, .mv (.c (.slc 0 true []))⟩] none)
 (.seq
  (.region [
   ⟨some 3, none, .mv (.c (.slc 0 true []))⟩] none)
  (.seq
   (.region [
    ⟨some 9, none, .call 25 []⟩,
    ⟨some 4, none, .mv (.t 9)⟩] none)
   (.seq
    (.seq
     (.region [
      ⟨some 10, none, .mv (.t 0)⟩,
      ⟨some 11, none, .len .slc (.t 10)⟩,
      ⟨some 12, none, .mv (.c (.int .i64 0))⟩] none)
     (.block 0 (.loop (.seq
        (.region [
         ⟨some 13, none, .bin .lss (.t 12) (.t 11)⟩] none)
        (.seq
         (.cond (.t 13)
          .skip
          (.exit 0))
         (.seq
          (.block 1 (.seq
            (.region [
             ⟨some 14, none, .iaddr (.slc 5) (.t 10) (.t 12)⟩,
             ⟨some 15, none, .load true 5 (.t 14)⟩,
             ⟨some 6, none, .new [.int .i64 0, .int .i64 0, .int .u32 0, .str ByteArray.empty, .str ByteArray.empty]⟩,
             ⟨none, none, .store 5 (.t 6) (.t 15)⟩] none)
            (.seq
             (.region [
              ⟨some 17, none, .mv (.t 4)⟩,
              ⟨some 18, none, .load true 5 (.t 6)⟩,
              ⟨some 19, none, .call 26 [(.t 17), (.t 18)]⟩,
              ⟨some 16, none, .mv (.t 19)⟩,
              ⟨some 20, none, .ext (.t 16) 0⟩,
              ⟨some 21, none, .ext (.t 16) 1⟩,
              ⟨some 7, none, .new [.int .i64 0, .int .u32 0, .bool false, .str ByteArray.empty]⟩,
              ⟨none, none, .store 4 (.t 7) (.t 20)⟩,
              ⟨some 8, none, .mv (.t 21)⟩] none)
             (.seq
              (.region [
               ⟨some 22, none, .mv (.t 8)⟩] none)
              (.cond (.t 22)
               (.region [
                ⟨some 23, none, .mv (.t 3)⟩,
                ⟨some 24, none, .load true 4 (.t 7)⟩,
                ⟨some 25, none, .bslc 4 1 [.int .i64 0, .int .u32 0, .bool false, .str ByteArray.empty] [(0, 4, (.t 24))]⟩,
                ⟨some 26, none, .app 4 32 (.t 23) (.t 25)⟩,
                ⟨some 3, none, .mv (.t 26)⟩] none)
               .skip)))))
          (.region [
           ⟨some 27, none, .bin .add (.t 12) (.c (.int .i64 1))⟩,
           ⟨some 12, none, .mv (.t 27)⟩] none)))))))
    (.seq
     (.region [
      ⟨some 28, none, .mv (.t 3)⟩,
      ⟨some 2, none, .mv (.t 28)⟩] none)
     .ret)))))⟩
theorem nf12_ok : compF Try.prog 12 = some nf12 := by kernel_rfl

/-- comitia/comitiaref23.Replay -/
def nf13 : NF := ⟨23, [.tmp 2],
 (.seq
 (.region [
  ⟨some 2, none, .mv (.c (.slc 0 true []))⟩] none)
 (.seq
  (.region [
   ⟨some 5, none, .build [.slc 0 true [], .slc 0 true []] []⟩,
   ⟨some 6, none, .box (.t 5)⟩,
   ⟨some 3, none, .mv (.t 6)⟩] none)
  (.seq
   (.seq
    (.region [
     ⟨some 4, none, .mv (.c (.int .i64 0))⟩] none)
    (.block 0 (.loop (.seq
       (.seq
        (.region [
         ⟨some 7, none, .mv (.t 4)⟩,
         ⟨some 8, none, .mv (.t 0)⟩,
         ⟨some 9, none, .len .slc (.t 8)⟩,
         ⟨some 10, none, .bin .lss (.t 7) (.t 9)⟩] none)
        (.cond (.t 10)
         .skip
         (.exit 0)))
       (.seq
        (.block 1 (.region [
          ⟨some 13, none, .mv (.t 3)⟩,
          ⟨some 14, none, .mv (.t 0)⟩,
          ⟨some 15, none, .mv (.t 4)⟩,
          ⟨some 16, none, .iaddr (.slc 5) (.t 14) (.t 15)⟩,
          ⟨some 17, none, .load true 5 (.t 16)⟩,
          ⟨some 18, none, .call 27 [(.t 13), (.t 17)]⟩] none))
        (.region [
         ⟨some 11, none, .mv (.t 4)⟩,
         ⟨some 12, none, .bin .add (.t 11) (.c (.int .i64 1))⟩,
         ⟨some 4, none, .mv (.t 12)⟩] none))))))
   (.seq
    (.region [
     ⟨some 19, none, .mv (.t 3)⟩,
     ⟨some 20, none, .nchk (.t 19)⟩,
     ⟨some 21, none, .faddr 1 (.t 20)⟩,
     ⟨some 22, none, .load false 1 (.t 21)⟩,
     ⟨some 2, none, .mv (.t 22)⟩] none)
    .ret))))⟩
theorem nf13_ok : compF Try.prog 13 = some nf13 := by kernel_rfl

/-- comitia/comitialaw23.refs -/
def nf14 : NF := ⟨20, [.tmp 2],
 (.seq
 (.region [
  ⟨some 2, none, .mv (.c (.slc 0 true []))⟩] none)
 (.seq
  (.region [
   ⟨some 3, none, .mv (.c (.slc 0 true []))⟩] none)
  (.seq
   (.seq
    (.region [
     ⟨some 4, none, .mv (.c (.int .i64 0))⟩] none)
    (.block 0 (.loop (.seq
       (.seq
        (.region [
         ⟨some 5, none, .mv (.t 4)⟩,
         ⟨some 6, none, .mv (.t 0)⟩,
         ⟨some 7, none, .len .slc (.t 6)⟩,
         ⟨some 8, none, .bin .lss (.t 5) (.t 7)⟩] none)
        (.cond (.t 8)
         .skip
         (.exit 0)))
       (.seq
        (.block 1 (.region [
          ⟨some 11, none, .mv (.t 3)⟩,
          ⟨some 12, none, .mv (.t 0)⟩,
          ⟨some 13, none, .mv (.t 4)⟩,
          ⟨some 14, none, .iaddr (.slc 5) (.t 12) (.t 13)⟩,
          ⟨some 15, none, .load true 5 (.t 14)⟩,
          ⟨some 16, none, .call 11 [(.t 15)]⟩,
          ⟨some 17, none, .bslc 5 1 [.int .i64 0, .int .i64 0, .int .u32 0, .str ByteArray.empty, .str ByteArray.empty] [(0, 5, (.t 16))]⟩,
          ⟨some 18, none, .app 5 56 (.t 11) (.t 17)⟩,
          ⟨some 3, none, .mv (.t 18)⟩] none))
        (.region [
         ⟨some 9, none, .mv (.t 4)⟩,
         ⟨some 10, none, .bin .add (.t 9) (.c (.int .i64 1))⟩,
         ⟨some 4, none, .mv (.t 10)⟩] none))))))
   (.seq
    (.region [
     ⟨some 19, none, .mv (.t 3)⟩,
     ⟨some 2, none, .mv (.t 19)⟩] none)
    .ret))))⟩
theorem nf14_ok : compF Try.prog 14 = some nf14 := by kernel_rfl

/-- comitia/judge.Prefix -/
def nf15 : NF := ⟨24, [.tmp 4],
 (.seq
 (.region [
  ⟨some 4, none, .mv (.c (.bool false))⟩] none)
 (.scope (.seq
   (.region [
    ⟨some 5, none, .mv (.c (.int .i64 0))⟩] none)
   (.seq
    (.label 0)
    (.seq
     (.seq
      (.region [
       ⟨some 6, none, .mv (.t 5)⟩,
       ⟨some 7, none, .mv (.t 0)⟩,
       ⟨some 8, none, .len .slc (.t 7)⟩,
       ⟨some 9, none, .mv (.t 1)⟩,
       ⟨some 10, none, .len .slc (.t 9)⟩,
       ⟨some 11, none, .mm false [(.t 8), (.t 10)]⟩,
       ⟨some 12, none, .bin .geq (.t 6) (.t 11)⟩] none)
      (.cond (.t 12)
       (.seq
        (.region [
         ⟨some 4, none, .mv (.c (.bool true))⟩] none)
        .ret)
       .skip))
     (.seq
      (.seq
       (.region [
        ⟨some 13, none, .mv (.t 0)⟩,
        ⟨some 14, none, .mv (.t 5)⟩,
        ⟨some 15, none, .iaddr (.slc 5) (.t 13) (.t 14)⟩,
        ⟨some 16, none, .load true 5 (.t 15)⟩,
        ⟨some 17, none, .mv (.t 1)⟩,
        ⟨some 18, none, .mv (.t 5)⟩,
        ⟨some 19, none, .iaddr (.slc 5) (.t 17) (.t 18)⟩,
        ⟨some 20, none, .load true 5 (.t 19)⟩,
        ⟨some 21, none, .eq (.key ⟨true, [.int, .int, .int, .str, .str]⟩) false (.t 16) (.t 20)⟩] (some (8, [0, 0, 3, 7, 0, 0, 48, 112, 255], 0)))
       (.cond (.t 21)
        (.seq
         (.region [
          ⟨some 22, none, .mv (.t 5)⟩,
          ⟨some 23, none, .bin .add (.t 22) (.c (.int .i64 1))⟩,
          ⟨some 5, none, .mv (.t 23)⟩] none)
         (.goto 0))
        .skip))
      (.seq
       (.region [
        ⟨some 4, none, .mv (.c (.bool false))⟩] none)
       .ret)))))))⟩
theorem nf15_ok : compF Try.prog 15 = some nf15 := by kernel_rfl

/-- comitia/comitiaref23.Prefix -/
def nf16 : NF := ⟨27, [.tmp 4],
 (.seq
 (.region [
  ⟨some 4, none, .mv (.c (.bool false))⟩] none)
 (.seq
  (.seq
   (.region [
    ⟨some 5, none, .mv (.c (.int .i64 0))⟩] none)
   (.block 0 (.loop (.seq
      (.seq
       (.region [
        ⟨some 6, none, .mv (.t 5)⟩,
        ⟨some 7, none, .mv (.t 0)⟩,
        ⟨some 8, none, .len .slc (.t 7)⟩,
        ⟨some 9, none, .bin .lss (.t 6) (.t 8)⟩,
        ⟨some 10, none, .mv (.t 9)⟩,
        ⟨some 11, some (10, true), .mv (.t 5)⟩,
        ⟨some 12, some (10, true), .mv (.t 1)⟩,
        ⟨some 13, some (10, true), .len .slc (.t 12)⟩,
        ⟨some 14, some (10, true), .bin .lss (.t 11) (.t 13)⟩,
        ⟨some 15, none, .pick (.t 10) (.t 14) (.c (.bool false))⟩] none)
       (.cond (.t 15)
        .skip
        (.exit 0)))
      (.seq
       (.block 1 (.seq
         (.region [
          ⟨some 18, none, .mv (.t 0)⟩,
          ⟨some 19, none, .mv (.t 5)⟩,
          ⟨some 20, none, .iaddr (.slc 5) (.t 18) (.t 19)⟩,
          ⟨some 21, none, .load true 5 (.t 20)⟩,
          ⟨some 22, none, .mv (.t 1)⟩,
          ⟨some 23, none, .mv (.t 5)⟩,
          ⟨some 24, none, .iaddr (.slc 5) (.t 22) (.t 23)⟩,
          ⟨some 25, none, .load true 5 (.t 24)⟩,
          ⟨some 26, none, .eq (.key ⟨true, [.int, .int, .int, .str, .str]⟩) true (.t 21) (.t 25)⟩] (some (8, [0, 0, 3, 7, 0, 0, 48, 112, 255], 0)))
         (.cond (.t 26)
          (.seq
           (.region [
            ⟨some 4, none, .mv (.c (.bool false))⟩] none)
           .ret)
          .skip)))
       (.region [
        ⟨some 16, none, .mv (.t 5)⟩,
        ⟨some 17, none, .bin .add (.t 16) (.c (.int .i64 1))⟩,
        ⟨some 5, none, .mv (.t 17)⟩] none))))))
  (.seq
   (.region [
    ⟨some 4, none, .mv (.c (.bool true))⟩] none)
   .ret)))⟩
theorem nf16_ok : compF Try.prog 16 = some nf16 := by kernel_rfl

/-- comitia/judge.Once -/
def nf17 : NF := ⟨25, [.tmp 2],
 (.seq
 (.region [
  ⟨some 2, none, .mv (.c (.bool false))⟩] none)
 (.seq
  (.region [
   ⟨some 6, none, .mkmap⟩,
   ⟨some 3, none, .mv (.t 6)⟩] none)
  (.seq
   (.seq
    (.region [
     ⟨some 7, none, .mv (.t 0)⟩,
     ⟨some 8, none, .len .slc (.t 7)⟩,
     ⟨some 9, none, .mv (.c (.int .i64 0))⟩] none)
    (.block 0 (.loop (.seq
       (.region [
        ⟨some 10, none, .bin .lss (.t 9) (.t 8)⟩] none)
       (.seq
        (.cond (.t 10)
         .skip
         (.exit 0))
        (.seq
         (.block 1 (.seq
           (.region [
            ⟨some 11, none, .iaddr (.slc 5) (.t 7) (.t 9)⟩,
            ⟨some 12, none, .load true 5 (.t 11)⟩,
            ⟨some 5, none, .new [.int .i64 0, .int .i64 0, .int .u32 0, .str ByteArray.empty, .str ByteArray.empty]⟩,
            ⟨none, none, .store 5 (.t 5) (.t 12)⟩] none)
           (.region [
            ⟨some 13, none, .mv (.t 3)⟩,
            ⟨some 14, none, .faddr 1 (.t 5)⟩,
            ⟨some 15, none, .load false 1 (.t 14)⟩,
            ⟨some 16, none, .faddr 2 (.t 5)⟩,
            ⟨some 17, none, .load false 1 (.t 16)⟩,
            ⟨some 18, none, .build [.int .i64 0, .int .u32 0] [(0, 1, (.t 15)), (1, 1, (.t 17))]⟩,
            ⟨none, none, .put ⟨true, [.int, .int]⟩ (.t 13) (.t 18) (.c (.bool true))⟩] none)))
         (.region [
          ⟨some 19, none, .bin .add (.t 9) (.c (.int .i64 1))⟩,
          ⟨some 9, none, .mv (.t 19)⟩] none)))))))
   (.seq
    (.region [
     ⟨some 20, none, .mv (.t 3)⟩,
     ⟨some 21, none, .len .map (.t 20)⟩,
     ⟨some 22, none, .mv (.t 0)⟩,
     ⟨some 23, none, .len .slc (.t 22)⟩,
     ⟨some 24, none, .bin .eql (.t 21) (.t 23)⟩,
     ⟨some 2, none, .mv (.t 24)⟩] none)
    .ret))))⟩
theorem nf17_ok : compF Try.prog 17 = some nf17 := by kernel_rfl

/-- comitia/comitiaref23.Once -/
def nf18 : NF := ⟨40, [.tmp 2],
 (.seq
 (.region [
  ⟨some 2, none, .mv (.c (.bool false))⟩] none)
 (.seq
  (.seq
   (.region [
    ⟨some 3, none, .mv (.c (.int .i64 0))⟩] none)
   (.block 0 (.loop (.seq
      (.seq
       (.region [
        ⟨some 5, none, .mv (.t 3)⟩,
        ⟨some 6, none, .mv (.t 0)⟩,
        ⟨some 7, none, .len .slc (.t 6)⟩,
        ⟨some 8, none, .bin .lss (.t 5) (.t 7)⟩] none)
       (.cond (.t 8)
        .skip
        (.exit 0)))
      (.seq
       (.block 1 (.seq
         (.region [
          ⟨some 4, none, .mv (.c (.int .i64 0))⟩] none)
         (.block 2 (.loop (.seq
            (.seq
             (.region [
              ⟨some 11, none, .mv (.t 4)⟩,
              ⟨some 12, none, .mv (.t 3)⟩,
              ⟨some 13, none, .bin .lss (.t 11) (.t 12)⟩] none)
             (.cond (.t 13)
              .skip
              (.exit 2)))
            (.seq
             (.block 3 (.seq
               (.region [
                ⟨some 16, none, .mv (.t 0)⟩,
                ⟨some 17, none, .mv (.t 3)⟩,
                ⟨some 18, none, .iaddr (.slc 5) (.t 16) (.t 17)⟩,
                ⟨some 19, none, .faddr 1 (.t 18)⟩,
                ⟨some 20, none, .load false 1 (.t 19)⟩,
                ⟨some 21, none, .mv (.t 0)⟩,
                ⟨some 22, none, .mv (.t 4)⟩,
                ⟨some 23, none, .iaddr (.slc 5) (.t 21) (.t 22)⟩,
                ⟨some 24, none, .faddr 1 (.t 23)⟩,
                ⟨some 25, none, .load false 1 (.t 24)⟩,
                ⟨some 26, none, .bin .eql (.t 20) (.t 25)⟩,
                ⟨some 27, none, .mv (.t 26)⟩,
                ⟨some 28, some (27, true), .mv (.t 0)⟩,
                ⟨some 29, some (27, true), .mv (.t 3)⟩,
                ⟨some 30, some (27, true), .iaddr (.slc 5) (.t 28) (.t 29)⟩,
                ⟨some 31, some (27, true), .faddr 2 (.t 30)⟩,
                ⟨some 32, some (27, true), .load false 1 (.t 31)⟩,
                ⟨some 33, some (27, true), .mv (.t 0)⟩,
                ⟨some 34, some (27, true), .mv (.t 4)⟩,
                ⟨some 35, some (27, true), .iaddr (.slc 5) (.t 33) (.t 34)⟩,
                ⟨some 36, some (27, true), .faddr 2 (.t 35)⟩,
                ⟨some 37, some (27, true), .load false 1 (.t 36)⟩,
                ⟨some 38, some (27, true), .bin .eql (.t 32) (.t 37)⟩,
                ⟨some 39, none, .pick (.t 27) (.t 38) (.c (.bool false))⟩] (some (22, [0, 0, 3, 7, 15, 0, 0, 96, 224, 480, 1023, 2047, 4095, 4095, 16383, 32767, 65535, 4095, 4095, 397311, 921599, 1970175, 4194303, 8388607], 0)))
               (.cond (.t 39)
                (.seq
                 (.region [
                  ⟨some 2, none, .mv (.c (.bool false))⟩] none)
                 .ret)
                .skip)))
             (.region [
              ⟨some 14, none, .mv (.t 4)⟩,
              ⟨some 15, none, .bin .add (.t 14) (.c (.int .i64 1))⟩,
              ⟨some 4, none, .mv (.t 15)⟩] none)))))))
       (.region [
        ⟨some 9, none, .mv (.t 3)⟩,
        ⟨some 10, none, .bin .add (.t 9) (.c (.int .i64 1))⟩,
        ⟨some 3, none, .mv (.t 10)⟩] none))))))
  (.seq
   (.region [
    ⟨some 2, none, .mv (.c (.bool true))⟩] none)
   .ret)))⟩
theorem nf18_ok : compF Try.prog 18 = some nf18 := by kernel_rfl

/-- comitia/judge.Asked -/
def nf19 : NF := ⟨9, [.tmp 4],
 (.seq
 (.region [
  ⟨some 3, none, .box (.t 1)⟩,
  ⟨some 4, none, .mv (.c (.bool false))⟩] none)
 (.seq
  (.region [
   ⟨some 5, none, .mv (.t 0)⟩,
   ⟨some 6, none, .mkfn 29 [(.t 3)]⟩,
   ⟨some 7, none, .call 28 [(.t 5), (.t 6)]⟩,
   ⟨some 8, none, .un .not (.t 7)⟩,
   ⟨some 4, none, .mv (.t 8)⟩] none)
  .ret))⟩
theorem nf19_ok : compF Try.prog 19 = some nf19 := by kernel_rfl

/-- comitia/comitiaref23.Asked -/
def nf20 : NF := ⟨43, [.tmp 4],
 (.seq
 (.region [
  ⟨some 4, none, .mv (.c (.bool false))⟩] none)
 (.seq
  (.seq
   (.region [
    ⟨some 5, none, .mv (.c (.int .i64 0))⟩] none)
   (.block 0 (.loop (.seq
      (.seq
       (.region [
        ⟨some 8, none, .mv (.t 5)⟩,
        ⟨some 9, none, .mv (.t 0)⟩,
        ⟨some 10, none, .len .slc (.t 9)⟩,
        ⟨some 11, none, .bin .lss (.t 8) (.t 10)⟩] none)
       (.cond (.t 11)
        .skip
        (.exit 0)))
      (.seq
       (.block 1 (.seq
         (.region [
          ⟨some 6, none, .mv (.c (.bool false))⟩] none)
         (.seq
          (.seq
           (.region [
            ⟨some 7, none, .mv (.c (.int .i64 0))⟩] none)
           (.block 2 (.loop (.seq
              (.seq
               (.region [
                ⟨some 14, none, .mv (.t 7)⟩,
                ⟨some 15, none, .mv (.t 1)⟩,
                ⟨some 16, none, .len .slc (.t 15)⟩,
                ⟨some 17, none, .bin .lss (.t 14) (.t 16)⟩] none)
               (.cond (.t 17)
                .skip
                (.exit 2)))
              (.seq
               (.block 3 (.region [
                 ⟨some 20, none, .mv (.t 6)⟩,
                 ⟨some 21, none, .mv (.t 20)⟩,
                 ⟨some 22, some (21, false), .mv (.t 1)⟩,
                 ⟨some 23, some (21, false), .mv (.t 7)⟩,
                 ⟨some 24, some (21, false), .iaddr (.slc 13) (.t 22) (.t 23)⟩,
                 ⟨some 25, some (21, false), .faddr 0 (.t 24)⟩,
                 ⟨some 26, some (21, false), .load false 1 (.t 25)⟩,
                 ⟨some 27, some (21, false), .bin .eql (.t 26) (.c (.int .i64 1))⟩,
                 ⟨some 28, some (21, false), .mv (.t 27)⟩,
                 ⟨some 29, some (28, true), .mv (.t 1)⟩,
                 ⟨some 30, some (28, true), .mv (.t 7)⟩,
                 ⟨some 31, some (28, true), .iaddr (.slc 13) (.t 29) (.t 30)⟩,
                 ⟨some 32, some (28, true), .faddr 2 (.t 31)⟩,
                 ⟨some 33, some (28, true), .load true 5 (.t 32)⟩,
                 ⟨some 34, some (28, true), .mv (.t 0)⟩,
                 ⟨some 35, some (28, true), .mv (.t 5)⟩,
                 ⟨some 36, some (28, true), .iaddr (.slc 5) (.t 34) (.t 35)⟩,
                 ⟨some 37, some (28, true), .load true 5 (.t 36)⟩,
                 ⟨some 38, some (28, true), .eq (.key ⟨true, [.int, .int, .int, .str, .str]⟩) false (.t 33) (.t 37)⟩,
                 ⟨some 39, some (21, false), .pick (.t 28) (.t 38) (.c (.bool false))⟩,
                 ⟨some 40, none, .pick (.t 21) (.c (.bool true)) (.t 39)⟩,
                 ⟨some 6, none, .mv (.t 40)⟩] (some (18, [0, 1, 3, 3, 15, 31, 63, 127, 255, 511, 511, 2047, 4095, 8191, 511, 511, 49663, 115199, 262143, 524287, 1048575, 2097151], 0))))
               (.region [
                ⟨some 18, none, .mv (.t 7)⟩,
                ⟨some 19, none, .bin .add (.t 18) (.c (.int .i64 1))⟩,
                ⟨some 7, none, .mv (.t 19)⟩] none))))))
          (.seq
           (.region [
            ⟨some 41, none, .mv (.t 6)⟩,
            ⟨some 42, none, .un .not (.t 41)⟩] none)
           (.cond (.t 42)
            (.seq
             (.region [
              ⟨some 4, none, .mv (.c (.bool false))⟩] none)
             .ret)
            .skip)))))
       (.region [
        ⟨some 12, none, .mv (.t 5)⟩,
        ⟨some 13, none, .bin .add (.t 12) (.c (.int .i64 1))⟩,
        ⟨some 5, none, .mv (.t 13)⟩] none))))))
  (.seq
   (.region [
    ⟨some 4, none, .mv (.c (.bool true))⟩] none)
   .ret)))⟩
theorem nf20_ok : compF Try.prog 20 = some nf20 := by kernel_rfl

/-- comitia/judge.Honest -/
def nf21 : NF := ⟨50, [.tmp 4],
 (.seq
 (.region [
  ⟨some 4, none, .mv (.c (.bool false))⟩] none)
 (.seq
  (.region [
   ⟨some 10, none, .mv (.t 0)⟩,
   ⟨some 11, none, .call 12 [(.t 10)]⟩,
   ⟨some 5, none, .mv (.t 11)⟩] none)
  (.seq
   (.region [
    ⟨some 12, none, .mkmap⟩,
    ⟨some 6, none, .mv (.t 12)⟩] none)
   (.seq
    (.seq
     (.region [
      ⟨some 13, none, .mv (.t 1)⟩,
      ⟨some 14, none, .len .slc (.t 13)⟩,
      ⟨some 15, none, .mv (.c (.int .i64 0))⟩] none)
     (.block 0 (.loop (.seq
        (.region [
         ⟨some 16, none, .bin .lss (.t 15) (.t 14)⟩] none)
        (.seq
         (.cond (.t 16)
          .skip
          (.exit 0))
         (.seq
          (.block 1 (.seq
            (.region [
             ⟨some 17, none, .iaddr (.slc 13) (.t 13) (.t 15)⟩,
             ⟨some 18, none, .load true 13 (.t 17)⟩,
             ⟨some 8, none, .new [.int .i64 0, .int .i64 0, .int .i64 0, .int .i64 0, .int .u32 0, .str ByteArray.empty, .str ByteArray.empty, .int .i64 0, .int .i64 0, .int .i64 0, .int .u32 0, .bool false, .str ByteArray.empty]⟩,
             ⟨none, none, .store 13 (.t 8) (.t 18)⟩] none)
            (.seq
             (.region [
              ⟨some 19, none, .faddr 0 (.t 8)⟩,
              ⟨some 20, none, .load false 1 (.t 19)⟩] none)
             (.block 2 (.seq
               (.region [
                ⟨some 22, none, .bin .eql (.t 20) (.c (.int .i64 1))⟩,
                ⟨some 21, none, .mv (.t 22)⟩] none)
               (.cond (.t 21)
                (.region [
                 ⟨some 23, none, .mv (.t 6)⟩,
                 ⟨some 24, none, .faddr 2 (.t 8)⟩,
                 ⟨some 25, none, .faddr 1 (.t 24)⟩,
                 ⟨some 26, none, .load false 1 (.t 25)⟩,
                 ⟨some 27, none, .faddr 2 (.t 8)⟩,
                 ⟨some 28, none, .faddr 2 (.t 27)⟩,
                 ⟨some 29, none, .load false 1 (.t 28)⟩,
                 ⟨some 30, none, .build [.int .i64 0, .int .u32 0] [(0, 1, (.t 26)), (1, 1, (.t 29))]⟩,
                 ⟨none, none, .put ⟨true, [.int, .int]⟩ (.t 23) (.t 30) (.c (.bool true))⟩] none)
                (.seq
                 (.region [
                  ⟨some 32, none, .bin .eql (.t 20) (.c (.int .i64 2))⟩,
                  ⟨some 31, none, .mv (.t 32)⟩] none)
                 (.cond (.t 31)
                  (.seq
                   (.region [
                    ⟨some 33, none, .mkfn 32 [(.t 8)]⟩,
                    ⟨some 9, none, .mv (.t 33)⟩] none)
                   (.seq
                    (.region [
                     ⟨some 34, none, .mv (.t 6)⟩,
                     ⟨some 35, none, .faddr 9 (.t 8)⟩,
                     ⟨some 36, none, .faddr 0 (.t 35)⟩,
                     ⟨some 37, none, .load false 1 (.t 36)⟩,
                     ⟨some 38, none, .faddr 9 (.t 8)⟩,
                     ⟨some 39, none, .faddr 1 (.t 38)⟩,
                     ⟨some 40, none, .load false 1 (.t 39)⟩,
                     ⟨some 41, none, .build [.int .i64 0, .int .u32 0] [(0, 1, (.t 37)), (1, 1, (.t 40))]⟩,
                     ⟨some 42, none, .look ⟨true, [.int, .int]⟩ false (.bool false) (.t 34) (.t 41)⟩,
                     ⟨some 43, none, .un .not (.t 42)⟩,
                     ⟨some 44, none, .mv (.t 43)⟩,
                     ⟨some 45, some (44, false), .mv (.t 5)⟩,
                     ⟨some 46, some (44, false), .mv (.t 9)⟩,
                     ⟨some 47, some (44, false), .call 33 [(.t 45), (.t 46)]⟩,
                     ⟨some 48, none, .pick (.t 44) (.c (.bool true)) (.t 47)⟩] none)
                    (.cond (.t 48)
                     (.seq
                      (.region [
                       ⟨some 4, none, .mv (.c (.bool false))⟩] none)
                      .ret)
                     .skip)))
                  .skip))))))))
          (.region [
           ⟨some 49, none, .bin .add (.t 15) (.c (.int .i64 1))⟩,
           ⟨some 15, none, .mv (.t 49)⟩] none)))))))
    (.seq
     (.region [
      ⟨some 4, none, .mv (.c (.bool true))⟩] none)
     .ret)))))⟩
theorem nf21_ok : compF Try.prog 21 = some nf21 := by kernel_rfl

/-- comitia/comitiaref23.Honest -/
def nf22 : NF := ⟨100, [.tmp 4],
 (.seq
 (.region [
  ⟨some 4, none, .mv (.c (.bool false))⟩] none)
 (.seq
  (.region [
   ⟨some 11, none, .mv (.t 0)⟩,
   ⟨some 12, none, .call 13 [(.t 11)]⟩,
   ⟨some 5, none, .mv (.t 12)⟩] none)
  (.seq
   (.seq
    (.region [
     ⟨some 6, none, .mv (.c (.int .i64 0))⟩] none)
    (.block 0 (.loop (.seq
       (.seq
        (.region [
         ⟨some 13, none, .mv (.t 6)⟩,
         ⟨some 14, none, .mv (.t 1)⟩,
         ⟨some 15, none, .len .slc (.t 14)⟩,
         ⟨some 16, none, .bin .lss (.t 13) (.t 15)⟩] none)
        (.cond (.t 16)
         .skip
         (.exit 0)))
       (.seq
        (.block 1 (.seq
          (.seq
           (.region [
            ⟨some 19, none, .mv (.t 1)⟩,
            ⟨some 20, none, .mv (.t 6)⟩,
            ⟨some 21, none, .iaddr (.slc 13) (.t 19) (.t 20)⟩,
            ⟨some 22, none, .faddr 0 (.t 21)⟩,
            ⟨some 23, none, .load false 1 (.t 22)⟩,
            ⟨some 24, none, .bin .neq (.t 23) (.c (.int .i64 2))⟩] none)
           (.cond (.t 24)
            (.exit 1)
            .skip))
          (.seq
           (.region [
            ⟨some 25, none, .mv (.t 1)⟩,
            ⟨some 26, none, .mv (.t 6)⟩,
            ⟨some 27, none, .iaddr (.slc 13) (.t 25) (.t 26)⟩,
            ⟨some 28, none, .faddr 9 (.t 27)⟩,
            ⟨some 29, none, .load true 4 (.t 28)⟩,
            ⟨some 7, none, .new [.int .i64 0, .int .u32 0, .bool false, .str ByteArray.empty]⟩,
            ⟨none, none, .store 4 (.t 7) (.t 29)⟩] none)
           (.seq
            (.region [
             ⟨some 8, none, .mv (.c (.bool false))⟩] none)
            (.seq
             (.seq
              (.region [
               ⟨some 9, none, .mv (.c (.int .i64 0))⟩] none)
              (.block 2 (.loop (.seq
                 (.seq
                  (.region [
                   ⟨some 30, none, .mv (.t 9)⟩,
                   ⟨some 31, none, .mv (.t 6)⟩,
                   ⟨some 32, none, .bin .lss (.t 30) (.t 31)⟩] none)
                  (.cond (.t 32)
                   .skip
                   (.exit 2)))
                 (.seq
                  (.block 3 (.region [
                    ⟨some 35, none, .mv (.t 8)⟩,
                    ⟨some 36, none, .mv (.t 35)⟩,
                    ⟨some 37, some (36, false), .mv (.t 1)⟩,
                    ⟨some 38, some (36, false), .mv (.t 9)⟩,
                    ⟨some 39, some (36, false), .iaddr (.slc 13) (.t 37) (.t 38)⟩,
                    ⟨some 40, some (36, false), .faddr 0 (.t 39)⟩,
                    ⟨some 41, some (36, false), .load false 1 (.t 40)⟩,
                    ⟨some 42, some (36, false), .bin .eql (.t 41) (.c (.int .i64 1))⟩,
                    ⟨some 43, some (36, false), .mv (.t 42)⟩,
                    ⟨some 44, some (43, true), .mv (.t 1)⟩,
                    ⟨some 45, some (43, true), .mv (.t 9)⟩,
                    ⟨some 46, some (43, true), .iaddr (.slc 13) (.t 44) (.t 45)⟩,
                    ⟨some 47, some (43, true), .faddr 2 (.t 46)⟩,
                    ⟨some 48, some (43, true), .faddr 1 (.t 47)⟩,
                    ⟨some 49, some (43, true), .load false 1 (.t 48)⟩,
                    ⟨some 50, some (43, true), .faddr 0 (.t 7)⟩,
                    ⟨some 51, some (43, true), .load false 1 (.t 50)⟩,
                    ⟨some 52, some (43, true), .bin .eql (.t 49) (.t 51)⟩,
                    ⟨some 53, some (36, false), .pick (.t 43) (.t 52) (.c (.bool false))⟩,
                    ⟨some 54, some (36, false), .mv (.t 53)⟩,
                    ⟨some 55, some (54, true), .mv (.t 1)⟩,
                    ⟨some 56, some (54, true), .mv (.t 9)⟩,
                    ⟨some 57, some (54, true), .iaddr (.slc 13) (.t 55) (.t 56)⟩,
                    ⟨some 58, some (54, true), .faddr 2 (.t 57)⟩,
                    ⟨some 59, some (54, true), .faddr 2 (.t 58)⟩,
                    ⟨some 60, some (54, true), .load false 1 (.t 59)⟩,
                    ⟨some 61, some (54, true), .faddr 1 (.t 7)⟩,
                    ⟨some 62, some (54, true), .load false 1 (.t 61)⟩,
                    ⟨some 63, some (54, true), .bin .eql (.t 60) (.t 62)⟩,
                    ⟨some 64, some (36, false), .pick (.t 54) (.t 63) (.c (.bool false))⟩,
                    ⟨some 65, none, .pick (.t 36) (.c (.bool true)) (.t 64)⟩,
                    ⟨some 8, none, .mv (.t 65)⟩] (some (28, [0, 1, 3, 3, 15, 31, 63, 127, 255, 511, 511, 2047, 4095, 8191, 16383, 511, 33279, 131071, 262143, 524287, 1048575, 1048575, 4194303, 8388607, 16777215, 33554431, 1048575, 68157439, 268435455, 536870911, 1073741823, 2147483647], 0))))
                  (.region [
                   ⟨some 33, none, .mv (.t 9)⟩,
                   ⟨some 34, none, .bin .add (.t 33) (.c (.int .i64 1))⟩,
                   ⟨some 9, none, .mv (.t 34)⟩] none))))))
             (.seq
              (.seq
               (.region [
                ⟨some 10, none, .mv (.c (.int .i64 0))⟩] none)
               (.block 4 (.loop (.seq
                  (.seq
                   (.region [
                    ⟨some 66, none, .mv (.t 10)⟩,
                    ⟨some 67, none, .mv (.t 5)⟩,
                    ⟨some 68, none, .len .slc (.t 67)⟩,
                    ⟨some 69, none, .bin .lss (.t 66) (.t 68)⟩] none)
                   (.cond (.t 69)
                    .skip
                    (.exit 4)))
                  (.seq
                   (.block 5 (.seq
                     (.region [
                      ⟨some 72, none, .mv (.t 5)⟩,
                      ⟨some 73, none, .mv (.t 10)⟩,
                      ⟨some 74, none, .iaddr (.slc 4) (.t 72) (.t 73)⟩,
                      ⟨some 75, none, .faddr 0 (.t 74)⟩,
                      ⟨some 76, none, .load false 1 (.t 75)⟩,
                      ⟨some 77, none, .faddr 0 (.t 7)⟩,
                      ⟨some 78, none, .load false 1 (.t 77)⟩,
                      ⟨some 79, none, .bin .eql (.t 76) (.t 78)⟩,
                      ⟨some 80, none, .mv (.t 79)⟩,
                      ⟨some 81, some (80, true), .mv (.t 5)⟩,
                      ⟨some 82, some (80, true), .mv (.t 10)⟩,
                      ⟨some 83, some (80, true), .iaddr (.slc 4) (.t 81) (.t 82)⟩,
                      ⟨some 84, some (80, true), .faddr 1 (.t 83)⟩,
                      ⟨some 85, some (80, true), .load false 1 (.t 84)⟩,
                      ⟨some 86, some (80, true), .faddr 1 (.t 7)⟩,
                      ⟨some 87, some (80, true), .load false 1 (.t 86)⟩,
                      ⟨some 88, some (80, true), .bin .eql (.t 85) (.t 87)⟩,
                      ⟨some 89, none, .pick (.t 80) (.t 88) (.c (.bool false))⟩,
                      ⟨some 90, none, .mv (.t 89)⟩,
                      ⟨some 91, some (90, true), .mv (.t 5)⟩,
                      ⟨some 92, some (90, true), .mv (.t 10)⟩,
                      ⟨some 93, some (90, true), .iaddr (.slc 4) (.t 91) (.t 92)⟩,
                      ⟨some 94, some (90, true), .load true 4 (.t 93)⟩,
                      ⟨some 95, some (90, true), .load true 4 (.t 7)⟩,
                      ⟨some 96, some (90, true), .eq (.key ⟨true, [.int, .int, .bool, .str]⟩) true (.t 94) (.t 95)⟩,
                      ⟨some 97, none, .pick (.t 90) (.t 96) (.c (.bool false))⟩] (some (24, [0, 0, 3, 7, 15, 0, 32, 127, 255, 511, 511, 2047, 4095, 8191, 511, 16895, 65535, 131071, 262143, 524287, 524287, 2097151, 4194303, 524287, 16777215, 33554431], 0)))
                     (.cond (.t 97)
                      (.seq
                       (.region [
                        ⟨some 4, none, .mv (.c (.bool false))⟩] none)
                       .ret)
                      .skip)))
                   (.region [
                    ⟨some 70, none, .mv (.t 10)⟩,
                    ⟨some 71, none, .bin .add (.t 70) (.c (.int .i64 1))⟩,
                    ⟨some 10, none, .mv (.t 71)⟩] none))))))
              (.seq
               (.region [
                ⟨some 98, none, .mv (.t 8)⟩,
                ⟨some 99, none, .un .not (.t 98)⟩] none)
               (.cond (.t 99)
                (.seq
                 (.region [
                  ⟨some 4, none, .mv (.c (.bool false))⟩] none)
                 .ret)
                .skip))))))))
        (.region [
         ⟨some 17, none, .mv (.t 6)⟩,
         ⟨some 18, none, .bin .add (.t 17) (.c (.int .i64 1))⟩,
         ⟨some 6, none, .mv (.t 18)⟩] none))))))
   (.seq
    (.region [
     ⟨some 4, none, .mv (.c (.bool true))⟩] none)
    .ret))))⟩
theorem nf22_ok : compF Try.prog 22 = some nf22 := by kernel_rfl

/-- comitia/comitialaw23.asked -/
def nf23 : NF := ⟨75, [.tmp 4, .tmp 5],
 (.seq
 (.region [
  ⟨some 4, none, .mv (.c (.slc 0 true []))⟩,
  ⟨some 5, none, .mv (.c (.slc 0 true []))⟩] none)
 (.seq
  (.region [
   ⟨some 13, none, .mv (.t 0)⟩,
   ⟨some 14, none, .call 9 [(.t 13)]⟩,
   ⟨some 6, none, .mv (.t 14)⟩] none)
  (.seq
   (.region [
    ⟨some 15, none, .mv (.t 6)⟩,
    ⟨some 16, none, .call 12 [(.t 15)]⟩,
    ⟨some 7, none, .mv (.t 16)⟩] none)
   (.seq
    (.region [
     ⟨some 8, none, .mv (.c (.slc 0 true []))⟩] none)
    (.seq
     (.region [
      ⟨some 9, none, .mv (.c (.slc 0 true []))⟩] none)
     (.seq
      (.seq
       (.region [
        ⟨some 10, none, .mv (.c (.int .i64 0))⟩] none)
       (.block 0 (.loop (.seq
          (.seq
           (.region [
            ⟨some 17, none, .mv (.t 10)⟩,
            ⟨some 18, none, .mv (.t 6)⟩,
            ⟨some 19, none, .len .slc (.t 18)⟩,
            ⟨some 20, none, .bin .lss (.t 17) (.t 19)⟩] none)
           (.cond (.t 20)
            .skip
            (.exit 0)))
          (.seq
           (.block 1 (.seq
             (.region [
              ⟨some 23, none, .mv (.t 8)⟩,
              ⟨some 24, none, .mv (.t 6)⟩,
              ⟨some 25, none, .mv (.t 10)⟩,
              ⟨some 26, none, .iaddr (.slc 5) (.t 24) (.t 25)⟩,
              ⟨some 27, none, .load true 5 (.t 26)⟩,
              ⟨some 28, none, .build [.int .i64 0, .int .i64 0, .int .i64 0, .int .i64 0, .int .u32 0, .str ByteArray.empty, .str ByteArray.empty, .int .i64 0, .int .i64 0, .int .i64 0, .int .u32 0, .bool false, .str ByteArray.empty] [(0, 1, (.c (.int .i64 1))), (2, 5, (.t 27))]⟩,
              ⟨some 29, none, .bslc 13 1 [.int .i64 0, .int .i64 0, .int .i64 0, .int .i64 0, .int .u32 0, .str ByteArray.empty, .str ByteArray.empty, .int .i64 0, .int .i64 0, .int .i64 0, .int .u32 0, .bool false, .str ByteArray.empty] [(0, 13, (.t 28))]⟩,
              ⟨some 30, none, .app 13 120 (.t 23) (.t 29)⟩,
              ⟨some 8, none, .mv (.t 30)⟩] none)
             (.region [
              ⟨some 31, none, .mv (.t 9)⟩,
              ⟨some 32, none, .mv (.t 6)⟩,
              ⟨some 33, none, .mv (.t 10)⟩,
              ⟨some 34, none, .iaddr (.slc 5) (.t 32) (.t 33)⟩,
              ⟨some 35, none, .load true 5 (.t 34)⟩,
              ⟨some 36, none, .build [.int .i64 0, .int .i64 0, .int .i64 0, .int .i64 0, .int .u32 0, .str ByteArray.empty, .str ByteArray.empty, .int .i64 0, .int .i64 0, .int .i64 0, .int .u32 0, .bool false, .str ByteArray.empty] [(0, 1, (.c (.int .i64 1))), (2, 5, (.t 35))]⟩,
              ⟨some 37, none, .bslc 13 1 [.int .i64 0, .int .i64 0, .int .i64 0, .int .i64 0, .int .u32 0, .str ByteArray.empty, .str ByteArray.empty, .int .i64 0, .int .i64 0, .int .i64 0, .int .u32 0, .bool false, .str ByteArray.empty] [(0, 13, (.t 36))]⟩,
              ⟨some 38, none, .app 13 120 (.t 31) (.t 37)⟩,
              ⟨some 9, none, .mv (.t 38)⟩] none)))
           (.region [
            ⟨some 21, none, .mv (.t 10)⟩,
            ⟨some 22, none, .bin .add (.t 21) (.c (.int .i64 1))⟩,
            ⟨some 10, none, .mv (.t 22)⟩] none))))))
      (.seq
       (.seq
        (.region [
         ⟨some 11, none, .mv (.c (.int .i64 0))⟩] none)
        (.block 2 (.loop (.seq
           (.seq
            (.region [
             ⟨some 39, none, .mv (.t 11)⟩,
             ⟨some 40, none, .mv (.t 7)⟩,
             ⟨some 41, none, .len .slc (.t 40)⟩,
             ⟨some 42, none, .bin .lss (.t 39) (.t 41)⟩] none)
            (.cond (.t 42)
             .skip
             (.exit 2)))
           (.seq
            (.block 3 (.seq
              (.region [
               ⟨some 45, none, .mv (.t 7)⟩,
               ⟨some 46, none, .mv (.t 11)⟩,
               ⟨some 47, none, .iaddr (.slc 4) (.t 45) (.t 46)⟩,
               ⟨some 48, none, .load true 4 (.t 47)⟩,
               ⟨some 12, none, .new [.int .i64 0, .int .u32 0, .bool false, .str ByteArray.empty]⟩,
               ⟨none, none, .store 4 (.t 12) (.t 48)⟩] none)
              (.seq
               (.seq
                (.region [
                 ⟨some 49, none, .mv (.t 11)⟩,
                 ⟨some 50, none, .mv (.t 1)⟩,
                 ⟨some 51, none, .i2i .i64 (.t 50)⟩,
                 ⟨some 52, none, .mv (.t 7)⟩,
                 ⟨some 53, none, .len .slc (.t 52)⟩,
                 ⟨some 54, none, .bin .rem (.t 51) (.t 53)⟩,
                 ⟨some 55, none, .bin .eql (.t 49) (.t 54)⟩] none)
                (.cond (.t 55)
                 (.region [
                  ⟨some 56, none, .faddr 2 (.t 12)⟩,
                  ⟨some 57, none, .load false 1 (.t 56)⟩,
                  ⟨some 58, none, .un .not (.t 57)⟩,
                  ⟨some 59, none, .faddr 2 (.t 12)⟩,
                  ⟨none, none, .store 1 (.t 59) (.t 58)⟩] none)
                 .skip))
               (.seq
                (.region [
                 ⟨some 60, none, .mv (.t 8)⟩,
                 ⟨some 61, none, .mv (.t 7)⟩,
                 ⟨some 62, none, .mv (.t 11)⟩,
                 ⟨some 63, none, .iaddr (.slc 4) (.t 61) (.t 62)⟩,
                 ⟨some 64, none, .load true 4 (.t 63)⟩,
                 ⟨some 65, none, .build [.int .i64 0, .int .i64 0, .int .i64 0, .int .i64 0, .int .u32 0, .str ByteArray.empty, .str ByteArray.empty, .int .i64 0, .int .i64 0, .int .i64 0, .int .u32 0, .bool false, .str ByteArray.empty] [(0, 1, (.c (.int .i64 2))), (9, 4, (.t 64))]⟩,
                 ⟨some 66, none, .bslc 13 1 [.int .i64 0, .int .i64 0, .int .i64 0, .int .i64 0, .int .u32 0, .str ByteArray.empty, .str ByteArray.empty, .int .i64 0, .int .i64 0, .int .i64 0, .int .u32 0, .bool false, .str ByteArray.empty] [(0, 13, (.t 65))]⟩,
                 ⟨some 67, none, .app 13 120 (.t 60) (.t 66)⟩,
                 ⟨some 8, none, .mv (.t 67)⟩] none)
                (.region [
                 ⟨some 68, none, .mv (.t 9)⟩,
                 ⟨some 69, none, .load true 4 (.t 12)⟩,
                 ⟨some 70, none, .build [.int .i64 0, .int .i64 0, .int .i64 0, .int .i64 0, .int .u32 0, .str ByteArray.empty, .str ByteArray.empty, .int .i64 0, .int .i64 0, .int .i64 0, .int .u32 0, .bool false, .str ByteArray.empty] [(0, 1, (.c (.int .i64 2))), (9, 4, (.t 69))]⟩,
                 ⟨some 71, none, .bslc 13 1 [.int .i64 0, .int .i64 0, .int .i64 0, .int .i64 0, .int .u32 0, .str ByteArray.empty, .str ByteArray.empty, .int .i64 0, .int .i64 0, .int .i64 0, .int .u32 0, .bool false, .str ByteArray.empty] [(0, 13, (.t 70))]⟩,
                 ⟨some 72, none, .app 13 120 (.t 68) (.t 71)⟩,
                 ⟨some 9, none, .mv (.t 72)⟩] none)))))
            (.region [
             ⟨some 43, none, .mv (.t 11)⟩,
             ⟨some 44, none, .bin .add (.t 43) (.c (.int .i64 1))⟩,
             ⟨some 11, none, .mv (.t 44)⟩] none))))))
       (.seq
        (.region [
         ⟨some 73, none, .mv (.t 8)⟩,
         ⟨some 74, none, .mv (.t 9)⟩,
         ⟨some 4, none, .mv (.t 73)⟩,
         ⟨some 5, none, .mv (.t 74)⟩] none)
        .ret))))))))⟩
theorem nf23_ok : compF Try.prog 23 = some nf23 := by kernel_rfl

/-- (comitia/comitialaw23.Wish).wish -/
def nf24 : NF := ⟨59, [.cell 2 true 5],
 (.seq
 (.region [
  ⟨some 1, none, .box (.t 0)⟩,
  ⟨some 2, none, .new [.int .i64 0, .int .i64 0, .int .u32 0, .str ByteArray.empty, .str ByteArray.empty]⟩] none)
 (.seq
  (.seq
   (.region [
    ⟨some 4, none, .faddr 5 (.t 1)⟩,
    ⟨some 5, none, .load false 1 (.t 4)⟩,
    ⟨some 6, none, .un .not (.t 5)⟩] none)
   (.cond (.t 6)
    (.seq
     (.region [
      ⟨some 7, none, .faddr 0 (.t 1)⟩,
      ⟨some 8, none, .load true 5 (.t 7)⟩,
      ⟨none, none, .store 5 (.t 2) (.t 8)⟩] none)
     .ret)
    .skip))
  (.seq
   (.region [
    ⟨some 9, none, .faddr 0 (.t 1)⟩,
    ⟨some 10, none, .faddr 0 (.t 9)⟩,
    ⟨some 11, none, .load false 1 (.t 10)⟩,
    ⟨some 12, none, .i2i .u64 (.t 11)⟩,
    ⟨some 13, none, .bin .rem (.t 12) (.c (.int .u64 5))⟩,
    ⟨some 14, none, .i2i .i64 (.t 13)⟩,
    ⟨some 15, none, .faddr 0 (.t 1)⟩,
    ⟨some 16, none, .faddr 1 (.t 15)⟩,
    ⟨some 17, none, .load false 1 (.t 16)⟩,
    ⟨some 18, none, .i2i .u64 (.t 17)⟩,
    ⟨some 19, none, .bin .rem (.t 18) (.c (.int .u64 4))⟩,
    ⟨some 20, none, .i2i .i64 (.t 19)⟩,
    ⟨some 21, none, .bin .add (.c (.int .i64 1)) (.t 20)⟩,
    ⟨some 22, none, .faddr 0 (.t 1)⟩,
    ⟨some 23, none, .faddr 2 (.t 22)⟩,
    ⟨some 24, none, .load false 1 (.t 23)⟩,
    ⟨some 25, none, .bin .rem (.t 24) (.c (.int .u32 5))⟩,
    ⟨some 26, none, .bin .add (.c (.int .u32 1)) (.t 25)⟩,
    ⟨some 27, none, .faddr 0 (.t 1)⟩,
    ⟨some 28, none, .faddr 2 (.t 27)⟩,
    ⟨some 29, none, .load false 1 (.t 28)⟩,
    ⟨some 30, none, .bin .shr (.t 29) (.c (.int .u64 8))⟩,
    ⟨some 31, none, .bin .rem (.t 30) (.c (.int .u32 3))⟩,
    ⟨some 32, none, .i2i .u8 (.t 31)⟩,
    ⟨some 33, none, .bin .add (.c (.int .u8 97)) (.t 32)⟩,
    ⟨some 34, none, .bslc 1 1 [.int .u8 0] [(0, 1, (.t 33))]⟩,
    ⟨some 35, none, .b2s (.t 34)⟩,
    ⟨some 36, none, .faddr 0 (.t 1)⟩,
    ⟨some 37, none, .faddr 4 (.t 36)⟩,
    ⟨some 38, none, .load false 1 (.t 37)⟩,
    ⟨some 39, none, .faddr 0 (.t 1)⟩,
    ⟨some 40, none, .faddr 4 (.t 39)⟩,
    ⟨some 41, none, .load false 1 (.t 40)⟩,
    ⟨some 42, none, .len .str (.t 41)⟩,
    ⟨some 43, none, .mm false [(.t 42), (.c (.int .i64 8))]⟩,
    ⟨some 44, none, .slice .str (.t 38) none (some (.t 43)) none⟩,
    ⟨some 45, none, .build [.int .i64 0, .int .i64 0, .int .u32 0, .str ByteArray.empty, .str ByteArray.empty] [(0, 1, (.t 14)), (1, 1, (.t 21)), (2, 1, (.t 26)), (3, 1, (.t 35)), (4, 1, (.t 44))]⟩,
    ⟨some 3, none, .new [.int .i64 0, .int .i64 0, .int .u32 0, .str ByteArray.empty, .str ByteArray.empty]⟩,
    ⟨none, none, .store 5 (.t 3) (.t 45)⟩] (some (38, [0, 1, 3, 7, 15, 31, 0, 64, 192, 448, 960, 1984, 4032, 0, 8192, 24576, 57344, 122880, 0, 262144, 786432, 1835008, 3932160, 8126464, 16515072, 33292288, 66846720, 0, 134217728, 402653184, 0, 1073741824, 3221225472, 7516192768, 16106127360, 34225520640, 68719476735, 0, 274877906943], 0)))
   (.seq
    (.seq
     (.region [
      ⟨some 46, none, .faddr 0 (.t 3)⟩,
      ⟨some 47, none, .load false 1 (.t 46)⟩,
      ⟨some 48, none, .bin .neq (.t 47) (.c (.int .i64 1))⟩] none)
     (.cond (.t 48)
      (.region [
       ⟨some 49, none, .faddr 4 (.t 3)⟩,
       ⟨none, none, .store 1 (.t 49) (.c (.str ByteArray.empty))⟩] none)
      .skip))
    (.seq
     (.seq
      (.region [
       ⟨some 50, none, .faddr 0 (.t 3)⟩,
       ⟨some 51, none, .load false 1 (.t 50)⟩,
       ⟨some 52, none, .bin .eql (.t 51) (.c (.int .i64 0))⟩] none)
      (.cond (.t 52)
       (.seq
        (.region [
         ⟨some 53, none, .build [.int .i64 0, .int .i64 0, .int .u32 0, .str ByteArray.empty, .str ByteArray.empty] []⟩,
         ⟨none, none, .store 5 (.t 2) (.t 53)⟩] none)
        .ret)
       .skip))
     (.seq
      (.seq
       (.region [
        ⟨some 54, none, .faddr 0 (.t 3)⟩,
        ⟨some 55, none, .load false 1 (.t 54)⟩,
        ⟨some 56, none, .bin .eql (.t 55) (.c (.int .i64 4))⟩] none)
       (.cond (.t 56)
        (.region [
         ⟨some 57, none, .faddr 0 (.t 3)⟩,
         ⟨none, none, .store 1 (.t 57) (.c (.int .i64 1))⟩] none)
        .skip))
      (.seq
       (.region [
        ⟨some 58, none, .load true 5 (.t 3)⟩,
        ⟨none, none, .store 5 (.t 2) (.t 58)⟩] none)
       .ret)))))))⟩
theorem nf24_ok : compF Try.prog 24 = some nf24 := by kernel_rfl

/-- comitia/store.New -/
def nf25 : NF := ⟨6, [.tmp 0],
 (.seq
 (.region [
  ⟨some 0, none, .mv (.c (.nilp))⟩] none)
 (.seq
  (.region [
   ⟨some 1, none, .mkmap⟩,
   ⟨some 2, none, .mkmap⟩,
   ⟨some 3, none, .mkmap⟩,
   ⟨some 4, none, .build [.nilm, .nilm, .nilm] [(0, 1, (.t 1)), (1, 1, (.t 2)), (2, 1, (.t 3))]⟩,
   ⟨some 5, none, .box (.t 4)⟩,
   ⟨some 0, none, .mv (.t 5)⟩] none)
  .ret))⟩
theorem nf25_ok : compF Try.prog 25 = some nf25 := by kernel_rfl

/-- (*comitia/store.Store).Apply -/
def nf26 : NF := ⟨89, [.cell 4 true 4, .tmp 5],
 (.seq
 (.region [
  ⟨some 3, none, .box (.t 1)⟩,
  ⟨some 4, none, .new [.int .i64 0, .int .u32 0, .bool false, .str ByteArray.empty]⟩,
  ⟨some 5, none, .mv (.c (.bool false))⟩] none)
 (.scope (.seq
   (.seq
    (.region [
     ⟨some 8, none, .load true 5 (.t 3)⟩,
     ⟨some 9, none, .call 34 [(.t 8)]⟩,
     ⟨some 10, none, .un .not (.t 9)⟩,
     ⟨some 11, none, .mv (.t 10)⟩,
     ⟨some 12, some (11, false), .faddr 0 (.t 3)⟩,
     ⟨some 13, some (11, false), .load false 1 (.t 12)⟩,
     ⟨some 14, some (11, false), .bin .eql (.t 13) (.c (.int .i64 0))⟩,
     ⟨some 15, none, .pick (.t 11) (.c (.bool true)) (.t 14)⟩] none)
    (.cond (.t 15)
     (.goto 0)
     .skip))
   (.seq
    (.seq
     (.region [
      ⟨some 17, none, .mv (.t 0)⟩,
      ⟨some 18, none, .faddr 1 (.t 3)⟩,
      ⟨some 19, none, .load false 1 (.t 18)⟩,
      ⟨some 20, none, .faddr 2 (.t 3)⟩,
      ⟨some 21, none, .load false 1 (.t 20)⟩,
      ⟨some 22, none, .call 35 [(.t 17), (.t 19), (.t 21)]⟩,
      ⟨some 16, none, .mv (.t 22)⟩,
      ⟨some 23, none, .ext (.t 16) 0⟩,
      ⟨some 24, none, .ext (.t 16) 1⟩,
      ⟨some 6, none, .new [.int .i64 0, .int .u32 0, .bool false, .str ByteArray.empty]⟩,
      ⟨none, none, .store 4 (.t 6) (.t 23)⟩,
      ⟨some 7, none, .mv (.t 24)⟩] none)
     (.seq
      (.region [
       ⟨some 25, none, .mv (.t 7)⟩,
       ⟨some 26, none, .bin .eql (.t 25) (.c (.int .i64 0))⟩] none)
      (.cond (.t 26)
       (.goto 0)
       .skip)))
    (.seq
     (.region [
      ⟨some 27, none, .faddr 1 (.t 3)⟩,
      ⟨some 28, none, .load false 1 (.t 27)⟩,
      ⟨some 29, none, .faddr 2 (.t 3)⟩,
      ⟨some 30, none, .load false 1 (.t 29)⟩,
      ⟨some 31, none, .build [.int .i64 0, .int .u32 0, .bool false, .str ByteArray.empty] [(0, 1, (.t 28)), (1, 1, (.t 30))]⟩,
      ⟨none, none, .store 4 (.t 4) (.t 31)⟩] none)
     (.seq
      (.region [
       ⟨some 33, none, .mv (.t 0)⟩,
       ⟨some 34, none, .faddr 3 (.t 3)⟩,
       ⟨some 35, none, .load false 1 (.t 34)⟩,
       ⟨some 36, none, .call 36 [(.t 33), (.t 35)]⟩,
       ⟨some 32, none, .mv (.t 36)⟩,
       ⟨some 37, none, .ext (.t 32) 0⟩,
       ⟨some 38, none, .ext (.t 32) 1⟩,
       ⟨some 39, none, .faddr 3 (.t 4)⟩,
       ⟨none, none, .store 1 (.t 39) (.t 37)⟩,
       ⟨some 40, none, .faddr 2 (.t 4)⟩,
       ⟨none, none, .store 1 (.t 40) (.t 38)⟩] none)
      (.seq
       (.seq
        (.region [
         ⟨some 41, none, .faddr 0 (.t 3)⟩,
         ⟨some 42, none, .load false 1 (.t 41)⟩] none)
        (.block 0 (.seq
          (.region [
           ⟨some 44, none, .bin .eql (.t 42) (.c (.int .i64 1))⟩,
           ⟨some 43, none, .mv (.t 44)⟩] none)
          (.cond (.t 43)
           (.region [
            ⟨some 45, none, .mv (.t 0)⟩,
            ⟨some 46, none, .nchk (.t 45)⟩,
            ⟨some 47, none, .faddr 0 (.t 46)⟩,
            ⟨some 48, none, .load false 1 (.t 47)⟩,
            ⟨some 49, none, .faddr 3 (.t 3)⟩,
            ⟨some 50, none, .load false 1 (.t 49)⟩,
            ⟨some 51, none, .faddr 4 (.t 3)⟩,
            ⟨some 52, none, .load false 1 (.t 51)⟩,
            ⟨none, none, .put ⟨false, [.str]⟩ (.t 48) (.t 50) (.t 52)⟩] (some (8, [0, 1, 3, 7, 0, 16, 0, 64, 255], 0)))
           (.seq
            (.region [
             ⟨some 54, none, .bin .eql (.t 42) (.c (.int .i64 3))⟩,
             ⟨some 53, none, .mv (.t 54)⟩] none)
            (.cond (.t 53)
             (.region [
              ⟨some 55, none, .mv (.t 0)⟩,
              ⟨some 56, none, .nchk (.t 55)⟩,
              ⟨some 57, none, .faddr 0 (.t 56)⟩,
              ⟨some 58, none, .load false 1 (.t 57)⟩,
              ⟨some 59, none, .faddr 3 (.t 3)⟩,
              ⟨some 60, none, .load false 1 (.t 59)⟩,
              ⟨none, none, .del ⟨false, [.str]⟩ (.t 58) (.t 60)⟩] (some (6, [0, 1, 3, 7, 0, 16, 63], 0)))
             .skip))))))
       (.seq
        (.region [
         ⟨some 61, none, .mv (.t 0)⟩,
         ⟨some 62, none, .nchk (.t 61)⟩,
         ⟨some 63, none, .faddr 1 (.t 62)⟩,
         ⟨some 64, none, .load false 1 (.t 63)⟩,
         ⟨some 65, none, .faddr 3 (.t 3)⟩,
         ⟨some 66, none, .load false 1 (.t 65)⟩,
         ⟨some 67, none, .mv (.t 0)⟩,
         ⟨some 68, none, .nchk (.t 67)⟩,
         ⟨some 69, none, .faddr 1 (.t 68)⟩,
         ⟨some 70, none, .load false 1 (.t 69)⟩,
         ⟨some 71, none, .faddr 3 (.t 3)⟩,
         ⟨some 72, none, .load false 1 (.t 71)⟩,
         ⟨some 73, none, .look ⟨false, [.str]⟩ false (.slc 0 true []) (.t 70) (.t 72)⟩,
         ⟨some 74, none, .load true 5 (.t 3)⟩,
         ⟨some 75, none, .bslc 5 1 [.int .i64 0, .int .i64 0, .int .u32 0, .str ByteArray.empty, .str ByteArray.empty] [(0, 5, (.t 74))]⟩,
         ⟨some 76, none, .app 5 56 (.t 73) (.t 75)⟩,
         ⟨none, none, .put ⟨false, [.str]⟩ (.t 64) (.t 66) (.t 76)⟩] (some (16, [0, 1, 3, 7, 0, 16, 0, 64, 192, 448, 0, 1024, 4032, 0, 8192, 32704, 65535], 0)))
        (.seq
         (.region [
          ⟨some 77, none, .mv (.t 0)⟩,
          ⟨some 78, none, .nchk (.t 77)⟩,
          ⟨some 79, none, .faddr 2 (.t 78)⟩,
          ⟨some 80, none, .load false 1 (.t 79)⟩,
          ⟨some 81, none, .faddr 1 (.t 3)⟩,
          ⟨some 82, none, .load false 1 (.t 81)⟩,
          ⟨some 83, none, .faddr 2 (.t 3)⟩,
          ⟨some 84, none, .load false 1 (.t 83)⟩,
          ⟨some 85, none, .build [.int .i64 0, .int .u32 0] [(0, 1, (.t 82)), (1, 1, (.t 84))]⟩,
          ⟨some 86, none, .load true 4 (.t 4)⟩,
          ⟨none, none, .put ⟨true, [.int, .int]⟩ (.t 80) (.t 85) (.t 86)⟩] (some (10, [0, 1, 3, 7, 0, 16, 0, 64, 240, 0, 1023], 0)))
         (.seq
          (.seq
           (.region [
            ⟨some 87, none, .load true 4 (.t 4)⟩,
            ⟨none, none, .store 4 (.t 4) (.t 87)⟩,
            ⟨some 5, none, .mv (.c (.bool true))⟩] none)
           .ret)
          (.seq
           (.label 0)
           (.seq
            (.region [
             ⟨some 88, none, .build [.int .i64 0, .int .u32 0, .bool false, .str ByteArray.empty] []⟩,
             ⟨none, none, .store 4 (.t 4) (.t 88)⟩,
             ⟨some 5, none, .mv (.c (.bool false))⟩] none)
            .ret))))))))))))⟩
theorem nf26_ok : compF Try.prog 26 = some nf26 := by kernel_rfl

/-- (*comitia/comitiaref16.Store).Apply -/
def nf27 : NF := ⟨72, [.cell 4 true 4, .tmp 5],
 (.seq
 (.region [
  ⟨some 3, none, .box (.t 1)⟩,
  ⟨some 4, none, .new [.int .i64 0, .int .u32 0, .bool false, .str ByteArray.empty]⟩,
  ⟨some 5, none, .mv (.c (.bool false))⟩] none)
 (.seq
  (.region [
   ⟨some 12, none, .load true 5 (.t 3)⟩,
   ⟨some 13, none, .call 37 [(.t 12)]⟩,
   ⟨some 6, none, .mv (.t 13)⟩] none)
  (.seq
   (.region [
    ⟨some 15, none, .mv (.t 0)⟩,
    ⟨some 16, none, .faddr 1 (.t 3)⟩,
    ⟨some 17, none, .load false 1 (.t 16)⟩,
    ⟨some 18, none, .faddr 2 (.t 3)⟩,
    ⟨some 19, none, .load false 1 (.t 18)⟩,
    ⟨some 20, none, .call 38 [(.t 15), (.t 17), (.t 19)]⟩,
    ⟨some 14, none, .mv (.t 20)⟩,
    ⟨some 21, none, .ext (.t 14) 0⟩,
    ⟨some 22, none, .ext (.t 14) 1⟩,
    ⟨some 7, none, .new [.int .i64 0, .int .u32 0, .bool false, .str ByteArray.empty]⟩,
    ⟨none, none, .store 4 (.t 7) (.t 21)⟩,
    ⟨some 8, none, .mv (.t 22)⟩] none)
   (.seq
    (.seq
     (.region [
      ⟨some 23, none, .mv (.t 6)⟩,
      ⟨some 24, none, .un .not (.t 23)⟩,
      ⟨some 25, none, .mv (.t 24)⟩,
      ⟨some 26, some (25, false), .faddr 0 (.t 3)⟩,
      ⟨some 27, some (25, false), .load false 1 (.t 26)⟩,
      ⟨some 28, some (25, false), .bin .eql (.t 27) (.c (.int .i64 0))⟩,
      ⟨some 29, none, .pick (.t 25) (.c (.bool true)) (.t 28)⟩,
      ⟨some 30, none, .mv (.t 29)⟩,
      ⟨some 31, some (30, false), .mv (.t 8)⟩,
      ⟨some 32, some (30, false), .bin .eql (.t 31) (.c (.int .i64 0))⟩,
      ⟨some 33, none, .pick (.t 30) (.c (.bool true)) (.t 32)⟩] none)
     (.cond (.t 33)
      (.seq
       (.region [
        ⟨some 34, none, .build [.int .i64 0, .int .u32 0, .bool false, .str ByteArray.empty] []⟩,
        ⟨none, none, .store 4 (.t 4) (.t 34)⟩,
        ⟨some 5, none, .mv (.c (.bool false))⟩] none)
       .ret)
      .skip))
    (.seq
     (.region [
      ⟨some 36, none, .mv (.t 0)⟩,
      ⟨some 37, none, .faddr 3 (.t 3)⟩,
      ⟨some 38, none, .load false 1 (.t 37)⟩,
      ⟨some 39, none, .call 39 [(.t 36), (.t 38)]⟩,
      ⟨some 35, none, .mv (.t 39)⟩,
      ⟨some 40, none, .ext (.t 35) 0⟩,
      ⟨some 41, none, .ext (.t 35) 1⟩,
      ⟨some 9, none, .mv (.t 40)⟩,
      ⟨some 10, none, .mv (.t 41)⟩] none)
     (.seq
      (.region [
       ⟨some 42, none, .faddr 1 (.t 3)⟩,
       ⟨some 43, none, .load false 1 (.t 42)⟩,
       ⟨some 44, none, .faddr 2 (.t 3)⟩,
       ⟨some 45, none, .load false 1 (.t 44)⟩,
       ⟨some 46, none, .mv (.t 10)⟩,
       ⟨some 47, none, .mv (.t 9)⟩,
       ⟨some 48, none, .build [.int .i64 0, .int .u32 0, .bool false, .str ByteArray.empty] [(0, 1, (.t 43)), (1, 1, (.t 45)), (2, 1, (.t 46)), (3, 1, (.t 47))]⟩,
       ⟨some 11, none, .new [.int .i64 0, .int .u32 0, .bool false, .str ByteArray.empty]⟩,
       ⟨none, none, .store 4 (.t 11) (.t 48)⟩] none)
      (.seq
       (.region [
        ⟨some 49, none, .mv (.t 0)⟩,
        ⟨some 50, none, .mv (.t 0)⟩,
        ⟨some 51, none, .nchk (.t 50)⟩,
        ⟨some 52, none, .faddr 0 (.t 51)⟩,
        ⟨some 53, none, .load false 1 (.t 52)⟩,
        ⟨some 54, none, .app 5 56 (.c (.slc 0 true [])) (.t 53)⟩,
        ⟨some 55, none, .load true 5 (.t 3)⟩,
        ⟨some 56, none, .bslc 5 1 [.int .i64 0, .int .i64 0, .int .u32 0, .str ByteArray.empty, .str ByteArray.empty] [(0, 5, (.t 55))]⟩,
        ⟨some 57, none, .app 5 56 (.t 54) (.t 56)⟩,
        ⟨some 58, none, .nchk (.t 49)⟩,
        ⟨some 59, none, .faddr 0 (.t 58)⟩,
        ⟨none, none, .store 1 (.t 59) (.t 57)⟩] (some (9, [0, 0, 2, 6, 14, 30, 0, 64, 254, 511, 1023, 2047], 0)))
       (.seq
        (.region [
         ⟨some 60, none, .mv (.t 0)⟩,
         ⟨some 61, none, .mv (.t 0)⟩,
         ⟨some 62, none, .nchk (.t 61)⟩,
         ⟨some 63, none, .faddr 1 (.t 62)⟩,
         ⟨some 64, none, .load false 1 (.t 63)⟩,
         ⟨some 65, none, .app 4 32 (.c (.slc 0 true [])) (.t 64)⟩,
         ⟨some 66, none, .load true 4 (.t 11)⟩,
         ⟨some 67, none, .bslc 4 1 [.int .i64 0, .int .u32 0, .bool false, .str ByteArray.empty] [(0, 4, (.t 66))]⟩,
         ⟨some 68, none, .app 4 32 (.t 65) (.t 67)⟩,
         ⟨some 69, none, .nchk (.t 60)⟩,
         ⟨some 70, none, .faddr 1 (.t 69)⟩,
         ⟨none, none, .store 1 (.t 70) (.t 68)⟩] (some (9, [0, 0, 2, 6, 14, 30, 0, 64, 254, 511, 1023, 2047], 0)))
        (.seq
         (.region [
          ⟨some 71, none, .load true 4 (.t 11)⟩,
          ⟨none, none, .store 4 (.t 4) (.t 71)⟩,
          ⟨some 5, none, .mv (.c (.bool true))⟩] none)
         .ret)))))))))⟩
theorem nf27_ok : compF Try.prog 27 = some nf27 := by kernel_rfl

/-- slices.ContainsFunc[[]comitia/cmd.Cmd,comitia/cmd.Cmd] -/
def nf28 : NF := ⟨9, [.tmp 4],
 (.seq
 (.region [
  ⟨some 4, none, .mv (.c (.bool false))⟩] none)
 (.seq
  (.region [
   ⟨some 5, none, .mv (.t 0)⟩,
   ⟨some 6, none, .mv (.t 1)⟩,
   ⟨some 7, none, .call 40 [(.t 5), (.t 6)]⟩,
   ⟨some 8, none, .bin .geq (.t 7) (.c (.int .i64 0))⟩,
   ⟨some 4, none, .mv (.t 8)⟩] none)
  .ret))⟩
theorem nf28_ok : compF Try.prog 28 = some nf28 := by kernel_rfl

/-- comitia/judge.Asked$1 -/
def nf29 : NF := ⟨8, [.tmp 3],
 (.seq
 (.region [
  ⟨some 2, none, .box (.t 0)⟩,
  ⟨some 3, none, .mv (.c (.bool false))⟩] none)
 (.seq
  (.region [
   ⟨some 4, none, .load false 1 (.t 1)⟩,
   ⟨some 5, none, .mkfn 31 [(.t 2)]⟩,
   ⟨some 6, none, .call 30 [(.t 4), (.t 5)]⟩,
   ⟨some 7, none, .un .not (.t 6)⟩,
   ⟨some 3, none, .mv (.t 7)⟩] none)
  .ret))⟩
theorem nf29_ok : compF Try.prog 29 = some nf29 := by kernel_rfl

/-- slices.ContainsFunc[[]comitia/cluster.Event,comitia/cluster.Event] -/
def nf30 : NF := ⟨9, [.tmp 4],
 (.seq
 (.region [
  ⟨some 4, none, .mv (.c (.bool false))⟩] none)
 (.seq
  (.region [
   ⟨some 5, none, .mv (.t 0)⟩,
   ⟨some 6, none, .mv (.t 1)⟩,
   ⟨some 7, none, .call 41 [(.t 5), (.t 6)]⟩,
   ⟨some 8, none, .bin .geq (.t 7) (.c (.int .i64 0))⟩,
   ⟨some 4, none, .mv (.t 8)⟩] none)
  .ret))⟩
theorem nf30_ok : compF Try.prog 30 = some nf30 := by kernel_rfl

/-- comitia/judge.Asked$1$1 -/
def nf31 : NF := ⟨13, [.tmp 3],
 (.seq
 (.region [
  ⟨some 2, none, .box (.t 0)⟩,
  ⟨some 3, none, .mv (.c (.bool false))⟩] none)
 (.seq
  (.region [
   ⟨some 4, none, .faddr 0 (.t 2)⟩,
   ⟨some 5, none, .load false 1 (.t 4)⟩,
   ⟨some 6, none, .bin .eql (.t 5) (.c (.int .i64 1))⟩,
   ⟨some 7, none, .mv (.t 6)⟩,
   ⟨some 8, some (7, true), .faddr 2 (.t 2)⟩,
   ⟨some 9, some (7, true), .load true 5 (.t 8)⟩,
   ⟨some 10, some (7, true), .load true 5 (.t 1)⟩,
   ⟨some 11, some (7, true), .eq (.key ⟨true, [.int, .int, .int, .str, .str]⟩) false (.t 9) (.t 10)⟩,
   ⟨some 12, none, .pick (.t 7) (.t 11) (.c (.bool false))⟩,
   ⟨some 3, none, .mv (.t 12)⟩] none)
  .ret))⟩
theorem nf31_ok : compF Try.prog 31 = some nf31 := by kernel_rfl

/-- comitia/judge.Honest$1 -/
def nf32 : NF := ⟨24, [.tmp 3],
 (.seq
 (.region [
  ⟨some 2, none, .box (.t 0)⟩,
  ⟨some 3, none, .mv (.c (.bool false))⟩] none)
 (.seq
  (.region [
   ⟨some 4, none, .faddr 0 (.t 2)⟩,
   ⟨some 5, none, .load false 1 (.t 4)⟩,
   ⟨some 6, none, .faddr 9 (.t 1)⟩,
   ⟨some 7, none, .faddr 0 (.t 6)⟩,
   ⟨some 8, none, .load false 1 (.t 7)⟩,
   ⟨some 9, none, .bin .eql (.t 5) (.t 8)⟩,
   ⟨some 10, none, .mv (.t 9)⟩,
   ⟨some 11, some (10, true), .faddr 1 (.t 2)⟩,
   ⟨some 12, some (10, true), .load false 1 (.t 11)⟩,
   ⟨some 13, some (10, true), .faddr 9 (.t 1)⟩,
   ⟨some 14, some (10, true), .faddr 1 (.t 13)⟩,
   ⟨some 15, some (10, true), .load false 1 (.t 14)⟩,
   ⟨some 16, some (10, true), .bin .eql (.t 12) (.t 15)⟩,
   ⟨some 17, none, .pick (.t 10) (.t 16) (.c (.bool false))⟩,
   ⟨some 18, none, .mv (.t 17)⟩,
   ⟨some 19, some (18, true), .load true 4 (.t 2)⟩,
   ⟨some 20, some (18, true), .faddr 9 (.t 1)⟩,
   ⟨some 21, some (18, true), .load true 4 (.t 20)⟩,
   ⟨some 22, some (18, true), .eq (.key ⟨true, [.int, .int, .bool, .str]⟩) true (.t 19) (.t 21)⟩,
   ⟨some 23, none, .pick (.t 18) (.t 22) (.c (.bool false))⟩,
   ⟨some 3, none, .mv (.t 23)⟩] none)
  .ret))⟩
theorem nf32_ok : compF Try.prog 32 = some nf32 := by kernel_rfl

/-- slices.ContainsFunc[[]comitia/store.Reply,comitia/store.Reply] -/
def nf33 : NF := ⟨9, [.tmp 4],
 (.seq
 (.region [
  ⟨some 4, none, .mv (.c (.bool false))⟩] none)
 (.seq
  (.region [
   ⟨some 5, none, .mv (.t 0)⟩,
   ⟨some 6, none, .mv (.t 1)⟩,
   ⟨some 7, none, .call 42 [(.t 5), (.t 6)]⟩,
   ⟨some 8, none, .bin .geq (.t 7) (.c (.int .i64 0))⟩,
   ⟨some 4, none, .mv (.t 8)⟩] none)
  .ret))⟩
theorem nf33_ok : compF Try.prog 33 = some nf33 := by kernel_rfl

/-- comitia/cmd.Right -/
def nf34 : NF := ⟨55, [.tmp 2],
 (.seq
 (.region [
  ⟨some 1, none, .box (.t 0)⟩,
  ⟨some 2, none, .mv (.c (.bool false))⟩] none)
 (.seq
  (.block 0 (.seq
    (.region [
     ⟨some 4, none, .load true 5 (.t 1)⟩,
     ⟨some 5, none, .build [.int .i64 0, .int .i64 0, .int .u32 0, .str ByteArray.empty, .str ByteArray.empty] []⟩,
     ⟨some 6, none, .eq (.key ⟨true, [.int, .int, .int, .str, .str]⟩) false (.t 4) (.t 5)⟩,
     ⟨some 3, none, .mv (.t 6)⟩] none)
    (.cond (.t 3)
     (.seq
      (.region [
       ⟨some 2, none, .mv (.c (.bool true))⟩] none)
      .ret)
     (.seq
      (.region [
       ⟨some 8, none, .faddr 0 (.t 1)⟩,
       ⟨some 9, none, .load false 1 (.t 8)⟩,
       ⟨some 10, none, .bin .leq (.t 9) (.c (.int .i64 0))⟩,
       ⟨some 11, none, .mv (.t 10)⟩,
       ⟨some 12, some (11, false), .faddr 0 (.t 1)⟩,
       ⟨some 13, some (11, false), .load false 1 (.t 12)⟩,
       ⟨some 14, some (11, false), .bin .geq (.t 13) (.c (.int .i64 4))⟩,
       ⟨some 15, none, .pick (.t 11) (.c (.bool true)) (.t 14)⟩,
       ⟨some 16, none, .mv (.t 15)⟩,
       ⟨some 17, some (16, false), .faddr 1 (.t 1)⟩,
       ⟨some 18, some (16, false), .load false 1 (.t 17)⟩,
       ⟨some 19, some (16, false), .bin .lss (.t 18) (.c (.int .i64 1))⟩,
       ⟨some 20, none, .pick (.t 16) (.c (.bool true)) (.t 19)⟩,
       ⟨some 21, none, .mv (.t 20)⟩,
       ⟨some 22, some (21, false), .faddr 1 (.t 1)⟩,
       ⟨some 23, some (21, false), .load false 1 (.t 22)⟩,
       ⟨some 24, some (21, false), .bin .gtr (.t 23) (.c (.int .i64 64))⟩,
       ⟨some 25, none, .pick (.t 21) (.c (.bool true)) (.t 24)⟩,
       ⟨some 26, none, .mv (.t 25)⟩,
       ⟨some 27, some (26, false), .faddr 2 (.t 1)⟩,
       ⟨some 28, some (26, false), .load false 1 (.t 27)⟩,
       ⟨some 29, some (26, false), .bin .lss (.t 28) (.c (.int .u32 1))⟩,
       ⟨some 30, none, .pick (.t 26) (.c (.bool true)) (.t 29)⟩,
       ⟨some 7, none, .mv (.t 30)⟩] none)
      (.cond (.t 7)
       (.seq
        (.region [
         ⟨some 2, none, .mv (.c (.bool false))⟩] none)
        .ret)
       (.seq
        (.region [
         ⟨some 32, none, .faddr 3 (.t 1)⟩,
         ⟨some 33, none, .load false 1 (.t 32)⟩,
         ⟨some 34, none, .bin .eql (.t 33) (.c (.str ByteArray.empty))⟩,
         ⟨some 35, none, .mv (.t 34)⟩,
         ⟨some 36, some (35, false), .faddr 3 (.t 1)⟩,
         ⟨some 37, some (35, false), .load false 1 (.t 36)⟩,
         ⟨some 38, some (35, false), .len .str (.t 37)⟩,
         ⟨some 39, some (35, false), .bin .gtr (.t 38) (.c (.int .i64 16))⟩,
         ⟨some 40, none, .pick (.t 35) (.c (.bool true)) (.t 39)⟩,
         ⟨some 41, none, .mv (.t 40)⟩,
         ⟨some 42, some (41, false), .faddr 4 (.t 1)⟩,
         ⟨some 43, some (41, false), .load false 1 (.t 42)⟩,
         ⟨some 44, some (41, false), .len .str (.t 43)⟩,
         ⟨some 45, some (41, false), .bin .gtr (.t 44) (.c (.int .i64 32))⟩,
         ⟨some 46, none, .pick (.t 41) (.c (.bool true)) (.t 45)⟩,
         ⟨some 31, none, .mv (.t 46)⟩] none)
        (.cond (.t 31)
         (.seq
          (.region [
           ⟨some 2, none, .mv (.c (.bool false))⟩] none)
          .ret)
         .skip)))))))
  (.seq
   (.region [
    ⟨some 47, none, .faddr 0 (.t 1)⟩,
    ⟨some 48, none, .load false 1 (.t 47)⟩,
    ⟨some 49, none, .bin .eql (.t 48) (.c (.int .i64 1))⟩,
    ⟨some 50, none, .mv (.t 49)⟩,
    ⟨some 51, some (50, false), .faddr 4 (.t 1)⟩,
    ⟨some 52, some (50, false), .load false 1 (.t 51)⟩,
    ⟨some 53, some (50, false), .bin .eql (.t 52) (.c (.str ByteArray.empty))⟩,
    ⟨some 54, none, .pick (.t 50) (.c (.bool true)) (.t 53)⟩,
    ⟨some 2, none, .mv (.t 54)⟩] none)
   .ret)))⟩
theorem nf34_ok : compF Try.prog 34 = some nf34 := by kernel_rfl

/-- (*comitia/store.Store).Known -/
def nf35 : NF := ⟨25, [.cell 6 true 4, .tmp 7],
 (.seq
 (.region [
  ⟨some 6, none, .new [.int .i64 0, .int .u32 0, .bool false, .str ByteArray.empty]⟩,
  ⟨some 7, none, .mv (.c (.int .i64 0))⟩] none)
 (.seq
  (.region [
   ⟨some 11, none, .mv (.t 0)⟩,
   ⟨some 12, none, .nchk (.t 11)⟩,
   ⟨some 13, none, .faddr 2 (.t 12)⟩,
   ⟨some 14, none, .load false 1 (.t 13)⟩,
   ⟨some 15, none, .mv (.t 1)⟩,
   ⟨some 16, none, .mv (.t 2)⟩,
   ⟨some 17, none, .build [.int .i64 0, .int .u32 0] [(0, 1, (.t 15)), (1, 1, (.t 16))]⟩,
   ⟨some 18, none, .look ⟨true, [.int, .int]⟩ true (.agg [.int .i64 0, .int .u32 0, .bool false, .str ByteArray.empty]) (.t 14) (.t 17)⟩,
   ⟨some 10, none, .mv (.t 18)⟩,
   ⟨some 19, none, .ext (.t 10) 0⟩,
   ⟨some 20, none, .ext (.t 10) 1⟩,
   ⟨some 8, none, .new [.int .i64 0, .int .u32 0, .bool false, .str ByteArray.empty]⟩,
   ⟨none, none, .store 4 (.t 8) (.t 19)⟩,
   ⟨some 9, none, .mv (.t 20)⟩] none)
  (.seq
   (.seq
    (.region [
     ⟨some 21, none, .mv (.t 9)⟩,
     ⟨some 22, none, .un .not (.t 21)⟩] none)
    (.cond (.t 22)
     (.seq
      (.region [
       ⟨some 23, none, .build [.int .i64 0, .int .u32 0, .bool false, .str ByteArray.empty] []⟩,
       ⟨none, none, .store 4 (.t 6) (.t 23)⟩,
       ⟨some 7, none, .mv (.c (.int .i64 5))⟩] none)
      .ret)
     .skip))
   (.seq
    (.region [
     ⟨some 24, none, .load true 4 (.t 8)⟩,
     ⟨none, none, .store 4 (.t 6) (.t 24)⟩,
     ⟨some 7, none, .mv (.c (.int .i64 0))⟩] none)
    .ret))))⟩
theorem nf35_ok : compF Try.prog 35 = some nf35 := by kernel_rfl

/-- (*comitia/store.Store).Value -/
def nf36 : NF := ⟨19, [.tmp 4, .tmp 5],
 (.seq
 (.region [
  ⟨some 4, none, .mv (.c (.str ByteArray.empty))⟩,
  ⟨some 5, none, .mv (.c (.bool false))⟩] none)
 (.seq
  (.region [
   ⟨some 9, none, .mv (.t 0)⟩,
   ⟨some 10, none, .nchk (.t 9)⟩,
   ⟨some 11, none, .faddr 0 (.t 10)⟩,
   ⟨some 12, none, .load false 1 (.t 11)⟩,
   ⟨some 13, none, .mv (.t 1)⟩,
   ⟨some 14, none, .look ⟨false, [.str]⟩ true (.str ByteArray.empty) (.t 12) (.t 13)⟩,
   ⟨some 8, none, .mv (.t 14)⟩,
   ⟨some 15, none, .ext (.t 8) 0⟩,
   ⟨some 16, none, .ext (.t 8) 1⟩,
   ⟨some 6, none, .mv (.t 15)⟩,
   ⟨some 7, none, .mv (.t 16)⟩] none)
  (.seq
   (.region [
    ⟨some 17, none, .mv (.t 6)⟩,
    ⟨some 18, none, .mv (.t 7)⟩,
    ⟨some 4, none, .mv (.t 17)⟩,
    ⟨some 5, none, .mv (.t 18)⟩] none)
   .ret)))⟩
theorem nf36_ok : compF Try.prog 36 = some nf36 := by kernel_rfl

/-- comitia/comitiaref07.Right -/
def nf37 : NF := ⟨57, [.tmp 2],
 (.seq
 (.region [
  ⟨some 1, none, .box (.t 0)⟩,
  ⟨some 2, none, .mv (.c (.bool false))⟩] none)
 (.seq
  (.seq
   (.region [
    ⟨some 3, none, .load true 5 (.t 1)⟩,
    ⟨some 4, none, .build [.int .i64 0, .int .i64 0, .int .u32 0, .str ByteArray.empty, .str ByteArray.empty] []⟩,
    ⟨some 5, none, .eq (.key ⟨true, [.int, .int, .int, .str, .str]⟩) false (.t 3) (.t 4)⟩] none)
   (.cond (.t 5)
    (.seq
     (.region [
      ⟨some 2, none, .mv (.c (.bool true))⟩] none)
     .ret)
    .skip))
  (.seq
   (.region [
    ⟨some 6, none, .faddr 0 (.t 1)⟩,
    ⟨some 7, none, .load false 1 (.t 6)⟩,
    ⟨some 8, none, .bin .geq (.t 7) (.c (.int .i64 1))⟩,
    ⟨some 9, none, .mv (.t 8)⟩,
    ⟨some 10, some (9, true), .faddr 0 (.t 1)⟩,
    ⟨some 11, some (9, true), .load false 1 (.t 10)⟩,
    ⟨some 12, some (9, true), .bin .leq (.t 11) (.c (.int .i64 3))⟩,
    ⟨some 13, none, .pick (.t 9) (.t 12) (.c (.bool false))⟩,
    ⟨some 14, none, .mv (.t 13)⟩,
    ⟨some 15, some (14, true), .faddr 1 (.t 1)⟩,
    ⟨some 16, some (14, true), .load false 1 (.t 15)⟩,
    ⟨some 17, some (14, true), .bin .geq (.t 16) (.c (.int .i64 1))⟩,
    ⟨some 18, none, .pick (.t 14) (.t 17) (.c (.bool false))⟩,
    ⟨some 19, none, .mv (.t 18)⟩,
    ⟨some 20, some (19, true), .faddr 1 (.t 1)⟩,
    ⟨some 21, some (19, true), .load false 1 (.t 20)⟩,
    ⟨some 22, some (19, true), .bin .leq (.t 21) (.c (.int .i64 64))⟩,
    ⟨some 23, none, .pick (.t 19) (.t 22) (.c (.bool false))⟩,
    ⟨some 24, none, .mv (.t 23)⟩,
    ⟨some 25, some (24, true), .faddr 2 (.t 1)⟩,
    ⟨some 26, some (24, true), .load false 1 (.t 25)⟩,
    ⟨some 27, some (24, true), .bin .geq (.t 26) (.c (.int .u32 1))⟩,
    ⟨some 28, none, .pick (.t 24) (.t 27) (.c (.bool false))⟩,
    ⟨some 29, none, .mv (.t 28)⟩,
    ⟨some 30, some (29, true), .faddr 3 (.t 1)⟩,
    ⟨some 31, some (29, true), .load false 1 (.t 30)⟩,
    ⟨some 32, some (29, true), .len .str (.t 31)⟩,
    ⟨some 33, some (29, true), .bin .geq (.t 32) (.c (.int .i64 1))⟩,
    ⟨some 34, none, .pick (.t 29) (.t 33) (.c (.bool false))⟩,
    ⟨some 35, none, .mv (.t 34)⟩,
    ⟨some 36, some (35, true), .faddr 3 (.t 1)⟩,
    ⟨some 37, some (35, true), .load false 1 (.t 36)⟩,
    ⟨some 38, some (35, true), .len .str (.t 37)⟩,
    ⟨some 39, some (35, true), .bin .leq (.t 38) (.c (.int .i64 16))⟩,
    ⟨some 40, none, .pick (.t 35) (.t 39) (.c (.bool false))⟩,
    ⟨some 41, none, .mv (.t 40)⟩,
    ⟨some 42, some (41, true), .faddr 4 (.t 1)⟩,
    ⟨some 43, some (41, true), .load false 1 (.t 42)⟩,
    ⟨some 44, some (41, true), .len .str (.t 43)⟩,
    ⟨some 45, some (41, true), .bin .leq (.t 44) (.c (.int .i64 32))⟩,
    ⟨some 46, none, .pick (.t 41) (.t 45) (.c (.bool false))⟩,
    ⟨some 47, none, .mv (.t 46)⟩,
    ⟨some 48, some (47, true), .faddr 0 (.t 1)⟩,
    ⟨some 49, some (47, true), .load false 1 (.t 48)⟩,
    ⟨some 50, some (47, true), .bin .eql (.t 49) (.c (.int .i64 1))⟩,
    ⟨some 51, some (47, true), .mv (.t 50)⟩,
    ⟨some 52, some (51, false), .faddr 4 (.t 1)⟩,
    ⟨some 53, some (51, false), .load false 1 (.t 52)⟩,
    ⟨some 54, some (51, false), .bin .eql (.t 53) (.c (.str ByteArray.empty))⟩,
    ⟨some 55, some (47, true), .pick (.t 51) (.c (.bool true)) (.t 54)⟩,
    ⟨some 56, none, .pick (.t 47) (.t 55) (.c (.bool false))⟩,
    ⟨some 2, none, .mv (.t 56)⟩] none)
   .ret)))⟩
theorem nf37_ok : compF Try.prog 37 = some nf37 := by kernel_rfl

/-- (*comitia/comitiaref16.Store).Known -/
def nf38 : NF := ⟨48, [.cell 6 true 4, .tmp 7],
 (.seq
 (.region [
  ⟨some 6, none, .new [.int .i64 0, .int .u32 0, .bool false, .str ByteArray.empty]⟩,
  ⟨some 7, none, .mv (.c (.int .i64 0))⟩] none)
 (.seq
  (.seq
   (.region [
    ⟨some 8, none, .mv (.c (.int .i64 0))⟩] none)
   (.block 0 (.loop (.seq
      (.seq
       (.region [
        ⟨some 9, none, .mv (.t 8)⟩,
        ⟨some 10, none, .mv (.t 0)⟩,
        ⟨some 11, none, .nchk (.t 10)⟩,
        ⟨some 12, none, .faddr 1 (.t 11)⟩,
        ⟨some 13, none, .load false 1 (.t 12)⟩,
        ⟨some 14, none, .len .slc (.t 13)⟩,
        ⟨some 15, none, .bin .lss (.t 9) (.t 14)⟩] none)
       (.cond (.t 15)
        .skip
        (.exit 0)))
      (.seq
       (.block 1 (.seq
         (.region [
          ⟨some 18, none, .mv (.t 0)⟩,
          ⟨some 19, none, .nchk (.t 18)⟩,
          ⟨some 20, none, .faddr 1 (.t 19)⟩,
          ⟨some 21, none, .load false 1 (.t 20)⟩,
          ⟨some 22, none, .mv (.t 8)⟩,
          ⟨some 23, none, .iaddr (.slc 4) (.t 21) (.t 22)⟩,
          ⟨some 24, none, .faddr 0 (.t 23)⟩,
          ⟨some 25, none, .load false 1 (.t 24)⟩,
          ⟨some 26, none, .mv (.t 1)⟩,
          ⟨some 27, none, .bin .eql (.t 25) (.t 26)⟩,
          ⟨some 28, none, .mv (.t 27)⟩,
          ⟨some 29, some (28, true), .mv (.t 0)⟩,
          ⟨some 30, some (28, true), .nchk (.t 29)⟩,
          ⟨some 31, some (28, true), .faddr 1 (.t 30)⟩,
          ⟨some 32, some (28, true), .load false 1 (.t 31)⟩,
          ⟨some 33, some (28, true), .mv (.t 8)⟩,
          ⟨some 34, some (28, true), .iaddr (.slc 4) (.t 32) (.t 33)⟩,
          ⟨some 35, some (28, true), .faddr 1 (.t 34)⟩,
          ⟨some 36, some (28, true), .load false 1 (.t 35)⟩,
          ⟨some 37, some (28, true), .mv (.t 2)⟩,
          ⟨some 38, some (28, true), .bin .eql (.t 36) (.t 37)⟩,
          ⟨some 39, none, .pick (.t 28) (.t 38) (.c (.bool false))⟩] none)
         (.cond (.t 39)
          (.seq
           (.region [
            ⟨some 40, none, .mv (.t 0)⟩,
            ⟨some 41, none, .nchk (.t 40)⟩,
            ⟨some 42, none, .faddr 1 (.t 41)⟩,
            ⟨some 43, none, .load false 1 (.t 42)⟩,
            ⟨some 44, none, .mv (.t 8)⟩,
            ⟨some 45, none, .iaddr (.slc 4) (.t 43) (.t 44)⟩,
            ⟨some 46, none, .load true 4 (.t 45)⟩,
            ⟨none, none, .store 4 (.t 6) (.t 46)⟩,
            ⟨some 7, none, .mv (.c (.int .i64 0))⟩] none)
           .ret)
          .skip)))
       (.region [
        ⟨some 16, none, .mv (.t 8)⟩,
        ⟨some 17, none, .bin .add (.t 16) (.c (.int .i64 1))⟩,
        ⟨some 8, none, .mv (.t 17)⟩] none))))))
  (.seq
   (.region [
    ⟨some 47, none, .build [.int .i64 0, .int .u32 0, .bool false, .str ByteArray.empty] []⟩,
    ⟨none, none, .store 4 (.t 6) (.t 47)⟩,
    ⟨some 7, none, .mv (.c (.int .i64 5))⟩] none)
   .ret)))⟩
theorem nf38_ok : compF Try.prog 38 = some nf38 := by kernel_rfl

/-- (*comitia/comitiaref16.Store).Value -/
def nf39 : NF := ⟨55, [.tmp 4, .tmp 5],
 (.seq
 (.region [
  ⟨some 4, none, .mv (.c (.str ByteArray.empty))⟩,
  ⟨some 5, none, .mv (.c (.bool false))⟩] none)
 (.seq
  (.seq
   (.region [
    ⟨some 7, none, .mv (.t 0)⟩,
    ⟨some 8, none, .nchk (.t 7)⟩,
    ⟨some 9, none, .faddr 0 (.t 8)⟩,
    ⟨some 10, none, .load false 1 (.t 9)⟩,
    ⟨some 11, none, .len .slc (.t 10)⟩,
    ⟨some 12, none, .bin .sub (.t 11) (.c (.int .i64 1))⟩,
    ⟨some 6, none, .mv (.t 12)⟩] none)
   (.block 0 (.loop (.seq
      (.seq
       (.region [
        ⟨some 13, none, .mv (.t 6)⟩,
        ⟨some 14, none, .bin .geq (.t 13) (.c (.int .i64 0))⟩] none)
       (.cond (.t 14)
        .skip
        (.exit 0)))
      (.seq
       (.block 1 (.seq
         (.region [
          ⟨some 17, none, .mv (.t 0)⟩,
          ⟨some 18, none, .nchk (.t 17)⟩,
          ⟨some 19, none, .faddr 0 (.t 18)⟩,
          ⟨some 20, none, .load false 1 (.t 19)⟩,
          ⟨some 21, none, .mv (.t 6)⟩,
          ⟨some 22, none, .iaddr (.slc 5) (.t 20) (.t 21)⟩,
          ⟨some 23, none, .faddr 3 (.t 22)⟩,
          ⟨some 24, none, .load false 1 (.t 23)⟩,
          ⟨some 25, none, .mv (.t 1)⟩,
          ⟨some 26, none, .bin .eql (.t 24) (.t 25)⟩,
          ⟨some 27, none, .mv (.t 26)⟩,
          ⟨some 28, some (27, true), .mv (.t 0)⟩,
          ⟨some 29, some (27, true), .nchk (.t 28)⟩,
          ⟨some 30, some (27, true), .faddr 0 (.t 29)⟩,
          ⟨some 31, some (27, true), .load false 1 (.t 30)⟩,
          ⟨some 32, some (27, true), .mv (.t 6)⟩,
          ⟨some 33, some (27, true), .iaddr (.slc 5) (.t 31) (.t 32)⟩,
          ⟨some 34, some (27, true), .faddr 0 (.t 33)⟩,
          ⟨some 35, some (27, true), .load false 1 (.t 34)⟩,
          ⟨some 36, some (27, true), .bin .neq (.t 35) (.c (.int .i64 2))⟩,
          ⟨some 37, none, .pick (.t 27) (.t 36) (.c (.bool false))⟩] none)
         (.cond (.t 37)
          (.seq
           (.region [
            ⟨some 38, none, .mv (.t 0)⟩,
            ⟨some 39, none, .nchk (.t 38)⟩,
            ⟨some 40, none, .faddr 0 (.t 39)⟩,
            ⟨some 41, none, .load false 1 (.t 40)⟩,
            ⟨some 42, none, .mv (.t 6)⟩,
            ⟨some 43, none, .iaddr (.slc 5) (.t 41) (.t 42)⟩,
            ⟨some 44, none, .faddr 4 (.t 43)⟩,
            ⟨some 45, none, .load false 1 (.t 44)⟩,
            ⟨some 46, none, .mv (.t 0)⟩,
            ⟨some 47, none, .nchk (.t 46)⟩,
            ⟨some 48, none, .faddr 0 (.t 47)⟩,
            ⟨some 49, none, .load false 1 (.t 48)⟩,
            ⟨some 50, none, .mv (.t 6)⟩,
            ⟨some 51, none, .iaddr (.slc 5) (.t 49) (.t 50)⟩,
            ⟨some 52, none, .faddr 0 (.t 51)⟩,
            ⟨some 53, none, .load false 1 (.t 52)⟩,
            ⟨some 54, none, .bin .eql (.t 53) (.c (.int .i64 1))⟩,
            ⟨some 4, none, .mv (.t 45)⟩,
            ⟨some 5, none, .mv (.t 54)⟩] (some (18, [0, 1, 3, 7, 0, 31, 63, 127, 0, 256, 768, 1792, 0, 7936, 16128, 32512, 65280, 255, 262143], 0)))
           .ret)
          .skip)))
       (.region [
        ⟨some 15, none, .mv (.t 6)⟩,
        ⟨some 16, none, .bin .sub (.t 15) (.c (.int .i64 1))⟩,
        ⟨some 6, none, .mv (.t 16)⟩] none))))))
  (.seq
   (.region [
    ⟨some 4, none, .mv (.c (.str ByteArray.empty))⟩,
    ⟨some 5, none, .mv (.c (.bool false))⟩] none)
   .ret)))⟩
theorem nf39_ok : compF Try.prog 39 = some nf39 := by kernel_rfl

/-- slices.IndexFunc[[]comitia/cmd.Cmd,comitia/cmd.Cmd] -/
def nf40 : NF := ⟨19, [.tmp 4],
 (.seq
 (.region [
  ⟨some 4, none, .mv (.c (.int .i64 0))⟩] none)
 (.seq
  (.seq
   (.region [
    ⟨some 6, none, .mv (.t 0)⟩,
    ⟨some 7, none, .len .slc (.t 6)⟩,
    ⟨some 8, none, .mv (.c (.int .i64 0))⟩] none)
   (.block 0 (.loop (.seq
      (.region [
       ⟨some 9, none, .bin .lss (.t 8) (.t 7)⟩] none)
      (.seq
       (.cond (.t 9)
        .skip
        (.exit 0))
       (.seq
        (.block 1 (.seq
          (.region [
           ⟨some 10, none, .mv (.t 8)⟩,
           ⟨some 5, none, .mv (.t 10)⟩] none)
          (.seq
           (.region [
            ⟨some 11, none, .mv (.t 1)⟩,
            ⟨some 12, none, .mv (.t 0)⟩,
            ⟨some 13, none, .mv (.t 5)⟩,
            ⟨some 14, none, .iaddr (.slc 5) (.t 12) (.t 13)⟩,
            ⟨some 15, none, .load true 5 (.t 14)⟩,
            ⟨some 16, none, .dyn (.t 11) [(.t 15)]⟩] none)
           (.cond (.t 16)
            (.seq
             (.region [
              ⟨some 17, none, .mv (.t 5)⟩,
              ⟨some 4, none, .mv (.t 17)⟩] none)
             .ret)
            .skip))))
        (.region [
         ⟨some 18, none, .bin .add (.t 8) (.c (.int .i64 1))⟩,
         ⟨some 8, none, .mv (.t 18)⟩] none)))))))
  (.seq
   (.region [
    ⟨some 4, none, .mv (.c (.int .i64 (-1)))⟩] none)
   .ret)))⟩
theorem nf40_ok : compF Try.prog 40 = some nf40 := by kernel_rfl

/-- slices.IndexFunc[[]comitia/cluster.Event,comitia/cluster.Event] -/
def nf41 : NF := ⟨19, [.tmp 4],
 (.seq
 (.region [
  ⟨some 4, none, .mv (.c (.int .i64 0))⟩] none)
 (.seq
  (.seq
   (.region [
    ⟨some 6, none, .mv (.t 0)⟩,
    ⟨some 7, none, .len .slc (.t 6)⟩,
    ⟨some 8, none, .mv (.c (.int .i64 0))⟩] none)
   (.block 0 (.loop (.seq
      (.region [
       ⟨some 9, none, .bin .lss (.t 8) (.t 7)⟩] none)
      (.seq
       (.cond (.t 9)
        .skip
        (.exit 0))
       (.seq
        (.block 1 (.seq
          (.region [
           ⟨some 10, none, .mv (.t 8)⟩,
           ⟨some 5, none, .mv (.t 10)⟩] none)
          (.seq
           (.region [
            ⟨some 11, none, .mv (.t 1)⟩,
            ⟨some 12, none, .mv (.t 0)⟩,
            ⟨some 13, none, .mv (.t 5)⟩,
            ⟨some 14, none, .iaddr (.slc 13) (.t 12) (.t 13)⟩,
            ⟨some 15, none, .load true 13 (.t 14)⟩,
            ⟨some 16, none, .dyn (.t 11) [(.t 15)]⟩] none)
           (.cond (.t 16)
            (.seq
             (.region [
              ⟨some 17, none, .mv (.t 5)⟩,
              ⟨some 4, none, .mv (.t 17)⟩] none)
             .ret)
            .skip))))
        (.region [
         ⟨some 18, none, .bin .add (.t 8) (.c (.int .i64 1))⟩,
         ⟨some 8, none, .mv (.t 18)⟩] none)))))))
  (.seq
   (.region [
    ⟨some 4, none, .mv (.c (.int .i64 (-1)))⟩] none)
   .ret)))⟩
theorem nf41_ok : compF Try.prog 41 = some nf41 := by kernel_rfl

/-- slices.IndexFunc[[]comitia/store.Reply,comitia/store.Reply] -/
def nf42 : NF := ⟨19, [.tmp 4],
 (.seq
 (.region [
  ⟨some 4, none, .mv (.c (.int .i64 0))⟩] none)
 (.seq
  (.seq
   (.region [
    ⟨some 6, none, .mv (.t 0)⟩,
    ⟨some 7, none, .len .slc (.t 6)⟩,
    ⟨some 8, none, .mv (.c (.int .i64 0))⟩] none)
   (.block 0 (.loop (.seq
      (.region [
       ⟨some 9, none, .bin .lss (.t 8) (.t 7)⟩] none)
      (.seq
       (.cond (.t 9)
        .skip
        (.exit 0))
       (.seq
        (.block 1 (.seq
          (.region [
           ⟨some 10, none, .mv (.t 8)⟩,
           ⟨some 5, none, .mv (.t 10)⟩] none)
          (.seq
           (.region [
            ⟨some 11, none, .mv (.t 1)⟩,
            ⟨some 12, none, .mv (.t 0)⟩,
            ⟨some 13, none, .mv (.t 5)⟩,
            ⟨some 14, none, .iaddr (.slc 4) (.t 12) (.t 13)⟩,
            ⟨some 15, none, .load true 4 (.t 14)⟩,
            ⟨some 16, none, .dyn (.t 11) [(.t 15)]⟩] none)
           (.cond (.t 16)
            (.seq
             (.region [
              ⟨some 17, none, .mv (.t 5)⟩,
              ⟨some 4, none, .mv (.t 17)⟩] none)
             .ret)
            .skip))))
        (.region [
         ⟨some 18, none, .bin .add (.t 8) (.c (.int .i64 1))⟩,
         ⟨some 8, none, .mv (.t 18)⟩] none)))))))
  (.seq
   (.region [
    ⟨some 4, none, .mv (.c (.int .i64 (-1)))⟩] none)
   .ret)))⟩
theorem nf42_ok : compF Try.prog 42 = some nf42 := by kernel_rfl

def F : FuncId → Option NF
  | 3 => some nf3
  | 4 => some nf4
  | 5 => some nf5
  | 6 => some nf6
  | 7 => some nf7
  | 8 => some nf8
  | 9 => some nf9
  | 10 => some nf10
  | 11 => some nf11
  | 12 => some nf12
  | 13 => some nf13
  | 14 => some nf14
  | 15 => some nf15
  | 16 => some nf16
  | 17 => some nf17
  | 18 => some nf18
  | 19 => some nf19
  | 20 => some nf20
  | 21 => some nf21
  | 22 => some nf22
  | 23 => some nf23
  | 24 => some nf24
  | 25 => some nf25
  | 26 => some nf26
  | 27 => some nf27
  | 28 => some nf28
  | 29 => some nf29
  | 30 => some nf30
  | 31 => some nf31
  | 32 => some nf32
  | 33 => some nf33
  | 34 => some nf34
  | 35 => some nf35
  | 36 => some nf36
  | 37 => some nf37
  | 38 => some nf38
  | 39 => some nf39
  | 40 => some nf40
  | 41 => some nf41
  | 42 => some nf42
  | _ => none
theorem F_ok (f : FuncId) (nf : NF) (h : F f = some nf) : compF Try.prog f = some nf := by
  unfold F at h
  split at h
  · rw [← h]; exact nf3_ok
  · rw [← h]; exact nf4_ok
  · rw [← h]; exact nf5_ok
  · rw [← h]; exact nf6_ok
  · rw [← h]; exact nf7_ok
  · rw [← h]; exact nf8_ok
  · rw [← h]; exact nf9_ok
  · rw [← h]; exact nf10_ok
  · rw [← h]; exact nf11_ok
  · rw [← h]; exact nf12_ok
  · rw [← h]; exact nf13_ok
  · rw [← h]; exact nf14_ok
  · rw [← h]; exact nf15_ok
  · rw [← h]; exact nf16_ok
  · rw [← h]; exact nf17_ok
  · rw [← h]; exact nf18_ok
  · rw [← h]; exact nf19_ok
  · rw [← h]; exact nf20_ok
  · rw [← h]; exact nf21_ok
  · rw [← h]; exact nf22_ok
  · rw [← h]; exact nf23_ok
  · rw [← h]; exact nf24_ok
  · rw [← h]; exact nf25_ok
  · rw [← h]; exact nf26_ok
  · rw [← h]; exact nf27_ok
  · rw [← h]; exact nf28_ok
  · rw [← h]; exact nf29_ok
  · rw [← h]; exact nf30_ok
  · rw [← h]; exact nf31_ok
  · rw [← h]; exact nf32_ok
  · rw [← h]; exact nf33_ok
  · rw [← h]; exact nf34_ok
  · rw [← h]; exact nf35_ok
  · rw [← h]; exact nf36_ok
  · rw [← h]; exact nf37_ok
  · rw [← h]; exact nf38_ok
  · rw [← h]; exact nf39_ok
  · rw [← h]; exact nf40_ok
  · rw [← h]; exact nf41_ok
  · rw [← h]; exact nf42_ok
  · cases h
end Go.Proofs.Ytehkfdicaiehcaa.Nv
