/- The functions that these statements reach, with their static parts reckoned; that they are the program's. -/
import Derived.Test.YthecdihimfddgaaNvCall
import Derived.Test.YthecdihimfddgaaNvW
import Derived.Test.YthecdihimfddgaaChecked
import Derived.KernelRfl
namespace Go.Proofs.Ythecdihimfddgaa.Nv
open Go

/-- comitia/comitialaw13.ChooseTells -/
def nf3 : NF := ⟨77, [.tmp 8],
 (.seq
 (.region [
  ⟨some 8, none, .mv (.c (.bool false))⟩] none)
 (.seq
  (.region [
   ⟨some 15, none, .call 9 []⟩,
   ⟨some 9, none, .mv (.t 15)⟩] none)
  (.seq
   (.seq
    (.region [
     ⟨some 16, none, .mv (.t 9)⟩,
     ⟨some 17, none, .un .not (.t 16)⟩] none)
    (.cond (.t 17)
     (.seq
      (.region [
       ⟨some 8, none, .mv (.c (.bool false))⟩] none)
      .ret)
     .skip))
   (.seq
    (.seq
     (.region [
      ⟨some 18, none, .mv (.t 2)⟩] none)
     (.cond (.t 18)
      (.seq
       (.region [
        ⟨some 19, none, .mv (.t 0)⟩,
        ⟨some 20, none, .i2i .u64 (.t 19)⟩,
        ⟨some 21, none, .bin .rem (.t 20) (.c (.int .u64 3))⟩,
        ⟨some 22, none, .i2i .i64 (.t 21)⟩,
        ⟨some 23, none, .bin .mul (.c (.int .i64 2)) (.t 22)⟩,
        ⟨some 24, none, .bin .add (.c (.int .i64 3)) (.t 23)⟩,
        ⟨some 0, none, .mv (.t 24)⟩] none)
       (.region [
        ⟨some 25, none, .mv (.t 1)⟩,
        ⟨some 26, none, .i2i .u64 (.t 25)⟩,
        ⟨some 27, none, .bin .rem (.t 26) (.c (.int .u64 7))⟩,
        ⟨some 28, none, .i2i .i64 (.t 27)⟩,
        ⟨some 29, none, .bin .add (.c (.int .i64 1)) (.t 28)⟩,
        ⟨some 1, none, .mv (.t 29)⟩] none))
      .skip))
    (.seq
     (.region [
      ⟨some 31, none, .mv (.t 3)⟩,
      ⟨some 32, none, .call 10 [(.t 31)]⟩,
      ⟨some 30, none, .mv (.t 32)⟩,
      ⟨some 33, none, .ext (.t 30) 0⟩,
      ⟨some 34, none, .ext (.t 30) 1⟩,
      ⟨some 10, none, .mv (.t 33)⟩,
      ⟨some 11, none, .mv (.t 34)⟩] none)
     (.seq
      (.region [
       ⟨some 35, none, .mv (.t 0)⟩,
       ⟨some 36, none, .mv (.t 1)⟩,
       ⟨some 37, none, .mv (.t 10)⟩,
       ⟨some 38, none, .call 11 [(.t 35), (.t 36), (.t 37)]⟩,
       ⟨some 12, none, .new [.int .i64 0, .int .i64 0, .int .i64 0, .int .u32 0, .str ByteArray.empty, .str ByteArray.empty, .int .u32 0, .slc 0 true []]⟩,
       ⟨none, none, .store 8 (.t 12) (.t 38)⟩] none)
      (.seq
       (.region [
        ⟨some 39, none, .mv (.t 0)⟩,
        ⟨some 40, none, .mv (.t 1)⟩,
        ⟨some 41, none, .mv (.t 11)⟩,
        ⟨some 42, none, .call 12 [(.t 39), (.t 40), (.t 41)]⟩,
        ⟨some 13, none, .new [.int .i64 0, .int .i64 0, .int .i64 0, .int .u32 0, .str ByteArray.empty, .str ByteArray.empty, .int .u32 0, .slc 0 true []]⟩,
        ⟨none, none, .store 8 (.t 13) (.t 42)⟩] none)
       (.seq
        (.region [
         ⟨some 43, none, .faddr 6 (.t 12)⟩,
         ⟨some 44, none, .load true 2 (.t 43)⟩,
         ⟨some 45, none, .call 14 [(.t 44)]⟩,
         ⟨some 46, none, .faddr 6 (.t 13)⟩,
         ⟨some 47, none, .load true 2 (.t 46)⟩,
         ⟨some 48, none, .call 13 [(.t 45), (.t 47)]⟩,
         ⟨some 14, none, .mv (.t 48)⟩] (some (5, [0, 1, 3, 0, 8, 31, 63], 32)))
        (.seq
         (.region [
          ⟨some 49, none, .mv (.t 9)⟩,
          ⟨some 50, none, .mv (.t 49)⟩,
          ⟨some 51, some (50, true), .mv (.t 0)⟩,
          ⟨some 52, some (50, true), .mv (.t 10)⟩,
          ⟨some 53, some (50, true), .call 15 [(.t 51), (.t 52)]⟩,
          ⟨some 54, some (50, true), .mv (.t 0)⟩,
          ⟨some 55, some (50, true), .mv (.t 11)⟩,
          ⟨some 56, some (50, true), .call 16 [(.t 54), (.t 55)]⟩,
          ⟨some 57, some (50, true), .eq (.key ⟨false, [.bool]⟩) false (.t 53) (.t 56)⟩,
          ⟨some 58, none, .pick (.t 50) (.t 57) (.c (.bool false))⟩,
          ⟨some 59, none, .mv (.t 58)⟩,
          ⟨some 60, some (59, true), .faddr 0 (.t 12)⟩,
          ⟨some 61, some (59, true), .load false 1 (.t 60)⟩,
          ⟨some 62, some (59, true), .faddr 0 (.t 13)⟩,
          ⟨some 63, some (59, true), .load false 1 (.t 62)⟩,
          ⟨some 64, some (59, true), .bin .eql (.t 61) (.t 63)⟩,
          ⟨some 65, none, .pick (.t 59) (.t 64) (.c (.bool false))⟩,
          ⟨some 66, none, .mv (.t 65)⟩,
          ⟨some 67, some (66, true), .faddr 1 (.t 12)⟩,
          ⟨some 68, some (66, true), .load true 5 (.t 67)⟩,
          ⟨some 69, some (66, true), .call 17 [(.t 68)]⟩,
          ⟨some 70, some (66, true), .faddr 1 (.t 13)⟩,
          ⟨some 71, some (66, true), .load true 5 (.t 70)⟩,
          ⟨some 72, some (66, true), .eq (.key ⟨true, [.int, .int, .int, .str, .str]⟩) false (.t 69) (.t 71)⟩,
          ⟨some 73, none, .pick (.t 66) (.t 72) (.c (.bool false))⟩,
          ⟨some 74, none, .mv (.t 73)⟩,
          ⟨some 75, some (74, true), .mv (.t 14)⟩,
          ⟨some 76, none, .pick (.t 74) (.t 75) (.c (.bool false))⟩,
          ⟨some 8, none, .mv (.t 76)⟩] (some (23, [0, 1, 3, 3, 15, 3, 3, 127, 255, 511, 1023, 2047, 4095, 2047, 10239, 32767, 65535, 131071, 262143, 524287, 1048575, 262143, 2359295, 8388607, 16777215, 33554431, 67108863, 134217727, 268435455], 2199023288832)))
         .ret)))))))))⟩
theorem nf3_ok : compF Try.prog 3 = some nf3 := by kernel_rfl

/-- comitia/comitialaw13.ChooseCounts -/
def nf4 : NF := ⟨103, [.tmp 4],
 (.seq
 (.region [
  ⟨some 4, none, .mv (.c (.bool false))⟩] none)
 (.seq
  (.region [
   ⟨some 14, none, .call 9 []⟩,
   ⟨some 5, none, .mv (.t 14)⟩] none)
  (.seq
   (.seq
    (.region [
     ⟨some 15, none, .mv (.t 5)⟩,
     ⟨some 16, none, .un .not (.t 15)⟩] none)
    (.cond (.t 16)
     (.seq
      (.region [
       ⟨some 4, none, .mv (.c (.bool false))⟩] none)
      .ret)
     .skip))
   (.seq
    (.region [
     ⟨some 17, none, .mv (.t 0)⟩,
     ⟨some 18, none, .bin .rem (.t 17) (.c (.int .u8 3))⟩,
     ⟨some 19, none, .i2i .i64 (.t 18)⟩,
     ⟨some 20, none, .bin .mul (.c (.int .i64 2)) (.t 19)⟩,
     ⟨some 21, none, .bin .add (.c (.int .i64 3)) (.t 20)⟩,
     ⟨some 6, none, .mv (.t 21)⟩] none)
    (.seq
     (.region [
      ⟨some 7, none, .mv (.c (.slc 0 true []))⟩] none)
     (.seq
      (.region [
       ⟨some 8, none, .new [.bool false, .bool false, .bool false, .bool false, .bool false, .bool false, .bool false, .bool false, .bool false, .bool false, .bool false, .bool false]⟩] none)
      (.seq
       (.region [
        ⟨some 9, none, .mv (.c (.int .i64 0))⟩] none)
       (.seq
        (.seq
         (.region [
          ⟨some 10, none, .mv (.c (.int .i64 0))⟩] none)
         (.block 0 (.loop (.seq
            (.seq
             (.region [
              ⟨some 22, none, .mv (.t 10)⟩,
              ⟨some 23, none, .mv (.t 1)⟩,
              ⟨some 24, none, .len .slc (.t 23)⟩,
              ⟨some 25, none, .bin .lss (.t 22) (.t 24)⟩,
              ⟨some 26, none, .mv (.t 25)⟩,
              ⟨some 27, some (26, true), .mv (.t 10)⟩,
              ⟨some 28, some (26, true), .bin .lss (.t 27) (.c (.int .i64 9))⟩,
              ⟨some 29, none, .pick (.t 26) (.t 28) (.c (.bool false))⟩] none)
             (.cond (.t 29)
              .skip
              (.exit 0)))
            (.seq
             (.block 1 (.seq
               (.region [
                ⟨some 32, none, .mv (.t 1)⟩,
                ⟨some 33, none, .mv (.t 10)⟩,
                ⟨some 34, none, .iaddr (.slc 1) (.t 32) (.t 33)⟩,
                ⟨some 35, none, .load false 1 (.t 34)⟩,
                ⟨some 36, none, .bin .rem (.t 35) (.c (.int .u8 10))⟩,
                ⟨some 37, none, .i2i .i64 (.t 36)⟩,
                ⟨some 11, none, .mv (.t 37)⟩] none)
               (.seq
                (.region [
                 ⟨some 38, none, .mv (.t 7)⟩,
                 ⟨some 39, none, .mv (.t 11)⟩,
                 ⟨some 40, none, .build [.int .i64 0, .int .i64 0] [(0, 1, (.c (.int .i64 1))), (1, 1, (.c (.int .i64 1)))]⟩,
                 ⟨some 41, none, .call 18 [(.t 40)]⟩,
                 ⟨some 42, none, .build [.int .i64 0, .int .i64 0, .int .i64 0, .int .i64 0, .int .i64 0, .int .i64 0, .int .u32 0, .str ByteArray.empty, .str ByteArray.empty, .int .u32 0, .slc 0 true [], .int .u32 0, .int .i64 0, .int .u32 0, .int .i64 0, .bool false] [(0, 1, (.t 39)), (1, 15, (.t 41))]⟩,
                 ⟨some 43, none, .bslc 16 1 [.int .i64 0, .int .i64 0, .int .i64 0, .int .i64 0, .int .i64 0, .int .i64 0, .int .u32 0, .str ByteArray.empty, .str ByteArray.empty, .int .u32 0, .slc 0 true [], .int .u32 0, .int .i64 0, .int .u32 0, .int .i64 0, .bool false] [(0, 16, (.t 42))]⟩,
                 ⟨some 44, none, .app 16 160 (.t 38) (.t 43)⟩,
                 ⟨some 7, none, .mv (.t 44)⟩] none)
                (.seq
                 (.seq
                  (.region [
                   ⟨some 45, none, .mv (.t 11)⟩,
                   ⟨some 46, none, .bin .geq (.t 45) (.c (.int .i64 1))⟩,
                   ⟨some 47, none, .mv (.t 46)⟩,
                   ⟨some 48, some (47, true), .mv (.t 11)⟩,
                   ⟨some 49, some (47, true), .mv (.t 6)⟩,
                   ⟨some 50, some (47, true), .bin .leq (.t 48) (.t 49)⟩,
                   ⟨some 51, none, .pick (.t 47) (.t 50) (.c (.bool false))⟩,
                   ⟨some 52, none, .mv (.t 51)⟩,
                   ⟨some 53, some (52, true), .mv (.t 11)⟩,
                   ⟨some 54, some (52, true), .iaddr (.arr 12 1) (.t 8) (.t 53)⟩,
                   ⟨some 55, some (52, true), .load false 1 (.t 54)⟩,
                   ⟨some 56, some (52, true), .un .not (.t 55)⟩,
                   ⟨some 57, none, .pick (.t 52) (.t 56) (.c (.bool false))⟩] none)
                  (.cond (.t 57)
                   (.region [
                    ⟨some 58, none, .mv (.t 9)⟩,
                    ⟨some 59, none, .bin .add (.t 58) (.c (.int .i64 1))⟩,
                    ⟨some 9, none, .mv (.t 59)⟩] none)
                   .skip))
                 (.region [
                  ⟨some 60, none, .mv (.t 11)⟩,
                  ⟨some 61, none, .iaddr (.arr 12 1) (.t 8) (.t 60)⟩,
                  ⟨none, none, .store 1 (.t 61) (.c (.bool true))⟩] none)))))
             (.region [
              ⟨some 30, none, .mv (.t 10)⟩,
              ⟨some 31, none, .bin .add (.t 30) (.c (.int .i64 1))⟩,
              ⟨some 10, none, .mv (.t 31)⟩] none))))))
        (.seq
         (.region [
          ⟨some 62, none, .mv (.t 9)⟩,
          ⟨some 63, none, .mv (.t 6)⟩,
          ⟨some 64, none, .bin .quo (.t 63) (.c (.int .i64 2))⟩,
          ⟨some 65, none, .bin .gtr (.t 62) (.t 64)⟩,
          ⟨some 12, none, .mv (.t 65)⟩] none)
         (.seq
          (.region [
           ⟨some 66, none, .mv (.t 6)⟩,
           ⟨some 67, none, .mv (.t 7)⟩,
           ⟨some 68, none, .call 11 [(.t 66), (.c (.int .i64 1)), (.t 67)]⟩,
           ⟨some 13, none, .new [.int .i64 0, .int .i64 0, .int .i64 0, .int .u32 0, .str ByteArray.empty, .str ByteArray.empty, .int .u32 0, .slc 0 true []]⟩,
           ⟨none, none, .store 8 (.t 13) (.t 68)⟩] none)
          (.seq
           (.region [
            ⟨some 69, none, .mv (.t 5)⟩,
            ⟨some 70, none, .mv (.t 69)⟩,
            ⟨some 71, some (70, true), .mv (.t 6)⟩,
            ⟨some 72, some (70, true), .mv (.t 7)⟩,
            ⟨some 73, some (70, true), .call 15 [(.t 71), (.t 72)]⟩,
            ⟨some 74, some (70, true), .mv (.t 12)⟩,
            ⟨some 75, some (70, true), .eq (.key ⟨false, [.bool]⟩) false (.t 73) (.t 74)⟩,
            ⟨some 76, none, .pick (.t 70) (.t 75) (.c (.bool false))⟩,
            ⟨some 77, none, .mv (.t 76)⟩,
            ⟨some 78, some (77, true), .faddr 0 (.t 13)⟩,
            ⟨some 79, some (77, true), .load false 1 (.t 78)⟩,
            ⟨some 80, some (77, true), .bin .eql (.t 79) (.c (.int .i64 0))⟩,
            ⟨some 81, some (77, true), .mv (.t 12)⟩,
            ⟨some 82, some (77, true), .un .not (.t 81)⟩,
            ⟨some 83, some (77, true), .eq (.key ⟨false, [.bool]⟩) false (.t 80) (.t 82)⟩,
            ⟨some 84, none, .pick (.t 77) (.t 83) (.c (.bool false))⟩,
            ⟨some 85, none, .mv (.t 84)⟩,
            ⟨some 86, some (85, true), .faddr 0 (.t 13)⟩,
            ⟨some 87, some (85, true), .load false 1 (.t 86)⟩,
            ⟨some 88, some (85, true), .bin .eql (.t 87) (.c (.int .i64 2))⟩,
            ⟨some 89, some (85, true), .mv (.t 12)⟩,
            ⟨some 90, some (85, true), .eq (.key ⟨false, [.bool]⟩) false (.t 88) (.t 89)⟩,
            ⟨some 91, none, .pick (.t 85) (.t 90) (.c (.bool false))⟩,
            ⟨some 92, none, .mv (.t 91)⟩,
            ⟨some 93, some (92, true), .mv (.t 7)⟩,
            ⟨some 94, some (92, true), .call 15 [(.c (.int .i64 4)), (.t 93)]⟩,
            ⟨some 95, some (92, true), .un .not (.t 94)⟩,
            ⟨some 96, none, .pick (.t 92) (.t 95) (.c (.bool false))⟩,
            ⟨some 97, none, .mv (.t 96)⟩,
            ⟨some 98, some (97, true), .mv (.t 7)⟩,
            ⟨some 99, some (97, true), .call 11 [(.c (.int .i64 6)), (.c (.int .i64 1)), (.t 98)]⟩,
            ⟨some 100, some (97, true), .field false 0 1 (.t 99)⟩,
            ⟨some 101, some (97, true), .bin .eql (.t 100) (.c (.int .i64 0))⟩,
            ⟨some 102, none, .pick (.t 97) (.t 101) (.c (.bool false))⟩,
            ⟨some 4, none, .mv (.t 102)⟩] none)
           .ret)))))))))))⟩
theorem nf4_ok : compF Try.prog 4 = some nf4 := by kernel_rfl

/-- comitia/comitialaw13.ChooseFast -/
def nf5 : NF := ⟨136, [.tmp 14],
 (.seq
 (.region [
  ⟨some 8, none, .box (.t 1)⟩,
  ⟨some 9, none, .box (.t 2)⟩,
  ⟨some 10, none, .box (.t 3)⟩,
  ⟨some 14, none, .mv (.c (.bool false))⟩] none)
 (.seq
  (.region [
   ⟨some 29, none, .call 9 []⟩,
   ⟨some 15, none, .mv (.t 29)⟩] none)
  (.seq
   (.seq
    (.region [
     ⟨some 30, none, .mv (.t 15)⟩,
     ⟨some 31, none, .un .not (.t 30)⟩] none)
    (.cond (.t 31)
     (.seq
      (.region [
       ⟨some 14, none, .mv (.c (.bool false))⟩] none)
      .ret)
     .skip))
   (.seq
    (.region [
     ⟨some 32, none, .mv (.t 0)⟩,
     ⟨some 33, none, .bin .rem (.t 32) (.c (.int .u8 3))⟩,
     ⟨some 34, none, .i2i .i64 (.t 33)⟩,
     ⟨some 35, none, .bin .mul (.c (.int .i64 2)) (.t 34)⟩,
     ⟨some 36, none, .bin .add (.c (.int .i64 3)) (.t 35)⟩,
     ⟨some 16, none, .mv (.t 36)⟩] none)
    (.seq
     (.region [
      ⟨some 38, none, .load true 6 (.t 8)⟩,
      ⟨some 39, none, .load true 4 (.t 9)⟩,
      ⟨some 40, none, .call 19 [(.t 38), (.t 39)]⟩,
      ⟨some 37, none, .mv (.t 40)⟩,
      ⟨some 41, none, .ext (.t 37) 0⟩,
      ⟨some 42, none, .ext (.t 37) 1⟩,
      ⟨some 17, none, .new [.int .i64 0, .int .i64 0, .int .u32 0, .str ByteArray.empty, .str ByteArray.empty]⟩,
      ⟨some 18, none, .new [.int .u32 0, .slc 0 true []]⟩,
      ⟨none, none, .store 5 (.t 17) (.t 41)⟩,
      ⟨none, none, .store 2 (.t 18) (.t 42)⟩] none)
     (.seq
      (.region [
       ⟨some 43, none, .build [.int .i64 0, .int .i64 0] [(0, 1, (.c (.int .i64 1))), (1, 1, (.c (.int .i64 1)))]⟩,
       ⟨some 44, none, .call 18 [(.t 43)]⟩,
       ⟨some 19, none, .new [.int .i64 0, .int .i64 0, .int .i64 0, .int .i64 0, .int .i64 0, .int .u32 0, .str ByteArray.empty, .str ByteArray.empty, .int .u32 0, .slc 0 true [], .int .u32 0, .int .i64 0, .int .u32 0, .int .i64 0, .bool false]⟩,
       ⟨none, none, .store 15 (.t 19) (.t 44)⟩] none)
      (.seq
       (.region [
        ⟨some 45, none, .mv (.t 4)⟩,
        ⟨some 46, none, .i2i .i64 (.t 45)⟩,
        ⟨some 47, none, .mv (.t 16)⟩,
        ⟨some 48, none, .bin .sub (.t 47) (.c (.int .i64 1))⟩,
        ⟨some 49, none, .bin .rem (.t 46) (.t 48)⟩,
        ⟨some 50, none, .bin .add (.c (.int .i64 2)) (.t 49)⟩,
        ⟨some 20, none, .mv (.t 50)⟩] none)
       (.seq
        (.region [
         ⟨some 52, none, .load true 15 (.t 19)⟩,
         ⟨some 53, none, .build [.int .u32 0, .int .i64 0] []⟩,
         ⟨some 54, none, .load true 5 (.t 17)⟩,
         ⟨some 55, none, .load true 2 (.t 18)⟩,
         ⟨some 56, none, .call 20 [(.t 52), (.t 53), (.t 54), (.t 55), (.c (.bool true))]⟩,
         ⟨some 51, none, .mv (.t 56)⟩,
         ⟨some 57, none, .ext (.t 51) 0⟩,
         ⟨some 58, none, .ext (.t 51) 1⟩,
         ⟨some 21, none, .new [.int .i64 0, .int .i64 0, .int .i64 0, .int .i64 0, .int .i64 0, .int .u32 0, .str ByteArray.empty, .str ByteArray.empty, .int .u32 0, .slc 0 true [], .int .u32 0, .int .i64 0, .int .u32 0, .int .i64 0, .bool false]⟩,
         ⟨none, none, .store 15 (.t 21) (.t 57)⟩,
         ⟨some 22, none, .mv (.t 58)⟩] none)
        (.seq
         (.region [
          ⟨some 59, none, .faddr 2 (.t 10)⟩,
          ⟨none, none, .store 1 (.t 59) (.c (.bool true))⟩] none)
         (.seq
          (.region [
           ⟨some 60, none, .load true 15 (.t 19)⟩,
           ⟨some 23, none, .new [.int .i64 0, .int .i64 0, .int .i64 0, .int .i64 0, .int .i64 0, .int .u32 0, .str ByteArray.empty, .str ByteArray.empty, .int .u32 0, .slc 0 true [], .int .u32 0, .int .i64 0, .int .u32 0, .int .i64 0, .bool false]⟩,
           ⟨none, none, .store 15 (.t 23) (.t 60)⟩] none)
          (.seq
           (.seq
            (.region [
             ⟨some 61, none, .mv (.t 5)⟩] none)
            (.cond (.t 61)
             (.region [
              ⟨some 63, none, .load true 15 (.t 19)⟩,
              ⟨some 64, none, .build [.int .u32 0, .int .i64 0] []⟩,
              ⟨some 65, none, .load true 5 (.t 17)⟩,
              ⟨some 66, none, .load true 4 (.t 10)⟩,
              ⟨some 67, none, .call 21 [(.t 66)]⟩,
              ⟨some 68, none, .call 20 [(.t 63), (.t 64), (.t 65), (.t 67), (.c (.bool false))]⟩,
              ⟨some 62, none, .mv (.t 68)⟩,
              ⟨some 69, none, .ext (.t 62) 0⟩,
              ⟨some 70, none, .ext (.t 62) 1⟩,
              ⟨none, none, .store 15 (.t 23) (.t 69)⟩,
              ⟨some 22, none, .mv (.t 70)⟩] (some (10, [0, 0, 0, 0, 8, 31, 63, 127, 127, 255, 1023], 2560)))
             .skip))
           (.seq
            (.region [
             ⟨some 24, none, .mv (.c (.slc 0 true []))⟩] none)
            (.seq
             (.seq
              (.region [
               ⟨some 25, none, .mv (.c (.int .i64 0))⟩] none)
              (.block 0 (.loop (.seq
                 (.seq
                  (.region [
                   ⟨some 71, none, .mv (.t 24)⟩,
                   ⟨some 72, none, .len .slc (.t 71)⟩,
                   ⟨some 73, none, .mv (.t 16)⟩,
                   ⟨some 74, none, .bin .quo (.t 73) (.c (.int .i64 2))⟩,
                   ⟨some 75, none, .bin .add (.t 74) (.c (.int .i64 1))⟩,
                   ⟨some 76, none, .bin .lss (.t 72) (.t 75)⟩,
                   ⟨some 77, none, .mv (.t 76)⟩,
                   ⟨some 78, some (77, true), .mv (.t 25)⟩,
                   ⟨some 79, some (77, true), .mv (.t 16)⟩,
                   ⟨some 80, some (77, true), .bin .sub (.t 79) (.c (.int .i64 1))⟩,
                   ⟨some 81, some (77, true), .bin .lss (.t 78) (.t 80)⟩,
                   ⟨some 82, none, .pick (.t 77) (.t 81) (.c (.bool false))⟩] none)
                  (.cond (.t 82)
                   .skip
                   (.exit 0)))
                 (.seq
                  (.block 1 (.seq
                    (.region [
                     ⟨some 85, none, .mv (.t 25)⟩,
                     ⟨some 86, none, .mv (.t 6)⟩,
                     ⟨some 87, none, .i2i .i64 (.t 86)⟩,
                     ⟨some 88, none, .bin .add (.t 85) (.t 87)⟩,
                     ⟨some 89, none, .mv (.t 16)⟩,
                     ⟨some 90, none, .bin .sub (.t 89) (.c (.int .i64 1))⟩,
                     ⟨some 91, none, .bin .rem (.t 88) (.t 90)⟩,
                     ⟨some 92, none, .bin .add (.c (.int .i64 2)) (.t 91)⟩,
                     ⟨some 26, none, .mv (.t 92)⟩] none)
                    (.seq
                     (.region [
                      ⟨some 93, none, .load true 15 (.t 21)⟩,
                      ⟨some 27, none, .new [.int .i64 0, .int .i64 0, .int .i64 0, .int .i64 0, .int .i64 0, .int .u32 0, .str ByteArray.empty, .str ByteArray.empty, .int .u32 0, .slc 0 true [], .int .u32 0, .int .i64 0, .int .u32 0, .int .i64 0, .bool false]⟩,
                      ⟨none, none, .store 15 (.t 27) (.t 93)⟩] none)
                     (.seq
                      (.seq
                       (.region [
                        ⟨some 94, none, .mv (.t 26)⟩,
                        ⟨some 95, none, .mv (.t 20)⟩,
                        ⟨some 96, none, .bin .eql (.t 94) (.t 95)⟩] none)
                       (.cond (.t 96)
                        (.region [
                         ⟨some 97, none, .load true 15 (.t 23)⟩,
                         ⟨none, none, .store 15 (.t 27) (.t 97)⟩] none)
                        .skip))
                      (.region [
                       ⟨some 98, none, .mv (.t 24)⟩,
                       ⟨some 99, none, .mv (.t 26)⟩,
                       ⟨some 100, none, .load true 15 (.t 27)⟩,
                       ⟨some 101, none, .build [.int .i64 0, .int .i64 0, .int .i64 0, .int .i64 0, .int .i64 0, .int .i64 0, .int .u32 0, .str ByteArray.empty, .str ByteArray.empty, .int .u32 0, .slc 0 true [], .int .u32 0, .int .i64 0, .int .u32 0, .int .i64 0, .bool false] [(0, 1, (.t 99)), (1, 15, (.t 100))]⟩,
                       ⟨some 102, none, .bslc 16 1 [.int .i64 0, .int .i64 0, .int .i64 0, .int .i64 0, .int .i64 0, .int .i64 0, .int .u32 0, .str ByteArray.empty, .str ByteArray.empty, .int .u32 0, .slc 0 true [], .int .u32 0, .int .i64 0, .int .u32 0, .int .i64 0, .bool false] [(0, 16, (.t 101))]⟩,
                       ⟨some 103, none, .app 16 160 (.t 98) (.t 102)⟩,
                       ⟨some 24, none, .mv (.t 103)⟩] none)))))
                  (.region [
                   ⟨some 83, none, .mv (.t 25)⟩,
                   ⟨some 84, none, .bin .add (.t 83) (.c (.int .i64 1))⟩,
                   ⟨some 25, none, .mv (.t 84)⟩] none))))))
             (.seq
              (.region [
               ⟨some 104, none, .mv (.t 16)⟩,
               ⟨some 105, none, .mv (.t 24)⟩,
               ⟨some 106, none, .call 11 [(.t 104), (.c (.int .i64 1)), (.t 105)]⟩,
               ⟨some 28, none, .new [.int .i64 0, .int .i64 0, .int .i64 0, .int .u32 0, .str ByteArray.empty, .str ByteArray.empty, .int .u32 0, .slc 0 true []]⟩,
               ⟨none, none, .store 8 (.t 28) (.t 106)⟩] none)
              (.seq
               (.region [
                ⟨some 107, none, .mv (.t 15)⟩,
                ⟨some 108, none, .mv (.t 107)⟩,
                ⟨some 109, some (108, true), .mv (.t 22)⟩,
                ⟨some 110, none, .pick (.t 108) (.t 109) (.c (.bool false))⟩,
                ⟨some 111, none, .mv (.t 110)⟩,
                ⟨some 112, some (111, true), .mv (.t 24)⟩,
                ⟨some 113, some (111, true), .len .slc (.t 112)⟩,
                ⟨some 114, some (111, true), .mv (.t 16)⟩,
                ⟨some 115, some (111, true), .bin .quo (.t 114) (.c (.int .i64 2))⟩,
                ⟨some 116, some (111, true), .bin .add (.t 115) (.c (.int .i64 1))⟩,
                ⟨some 117, some (111, true), .bin .eql (.t 113) (.t 116)⟩,
                ⟨some 118, none, .pick (.t 111) (.t 117) (.c (.bool false))⟩,
                ⟨some 119, none, .mv (.t 118)⟩,
                ⟨some 120, some (119, true), .faddr 0 (.t 28)⟩,
                ⟨some 121, some (119, true), .load false 1 (.t 120)⟩,
                ⟨some 122, some (119, true), .bin .eql (.t 121) (.c (.int .i64 2))⟩,
                ⟨some 123, none, .pick (.t 119) (.t 122) (.c (.bool false))⟩,
                ⟨some 124, none, .mv (.t 123)⟩,
                ⟨some 125, some (124, true), .faddr 1 (.t 28)⟩,
                ⟨some 126, some (124, true), .load true 5 (.t 125)⟩,
                ⟨some 127, some (124, true), .load true 5 (.t 17)⟩,
                ⟨some 128, some (124, true), .eq (.key ⟨true, [.int, .int, .int, .str, .str]⟩) false (.t 126) (.t 127)⟩,
                ⟨some 129, none, .pick (.t 124) (.t 128) (.c (.bool false))⟩,
                ⟨some 130, none, .mv (.t 129)⟩,
                ⟨some 131, some (130, true), .faddr 6 (.t 28)⟩,
                ⟨some 132, some (130, true), .load true 2 (.t 131)⟩,
                ⟨some 133, some (130, true), .load true 2 (.t 18)⟩,
                ⟨some 134, some (130, true), .call 22 [(.t 132), (.t 133)]⟩,
                ⟨some 135, none, .pick (.t 130) (.t 134) (.c (.bool false))⟩,
                ⟨some 14, none, .mv (.t 135)⟩] none)
               .ret)))))))))))))))⟩
theorem nf5_ok : compF Try.prog 5 = some nf5 := by kernel_rfl

/-- comitia/comitialaw13.ChooseNoop -/
def nf6 : NF := ⟨165, [.tmp 12],
 (.seq
 (.region [
  ⟨some 9, none, .box (.t 3)⟩,
  ⟨some 10, none, .box (.t 4)⟩,
  ⟨some 12, none, .mv (.c (.bool false))⟩] none)
 (.seq
  (.region [
   ⟨some 27, none, .call 9 []⟩,
   ⟨some 13, none, .mv (.t 27)⟩] none)
  (.seq
   (.seq
    (.region [
     ⟨some 28, none, .mv (.t 13)⟩,
     ⟨some 29, none, .un .not (.t 28)⟩] none)
    (.cond (.t 29)
     (.seq
      (.region [
       ⟨some 12, none, .mv (.c (.bool false))⟩] none)
      .ret)
     .skip))
   (.seq
    (.region [
     ⟨some 30, none, .mv (.t 0)⟩,
     ⟨some 31, none, .bin .rem (.t 30) (.c (.int .u8 3))⟩,
     ⟨some 32, none, .i2i .i64 (.t 31)⟩,
     ⟨some 33, none, .bin .mul (.c (.int .i64 2)) (.t 32)⟩,
     ⟨some 34, none, .bin .add (.c (.int .i64 3)) (.t 33)⟩,
     ⟨some 14, none, .mv (.t 34)⟩] none)
    (.seq
     (.region [
      ⟨some 36, none, .load true 6 (.t 9)⟩,
      ⟨some 37, none, .load true 4 (.t 10)⟩,
      ⟨some 38, none, .call 19 [(.t 36), (.t 37)]⟩,
      ⟨some 35, none, .mv (.t 38)⟩,
      ⟨some 39, none, .ext (.t 35) 0⟩,
      ⟨some 40, none, .ext (.t 35) 1⟩,
      ⟨some 15, none, .new [.int .i64 0, .int .i64 0, .int .u32 0, .str ByteArray.empty, .str ByteArray.empty]⟩,
      ⟨some 16, none, .new [.int .u32 0, .slc 0 true []]⟩,
      ⟨none, none, .store 5 (.t 15) (.t 39)⟩,
      ⟨none, none, .store 2 (.t 16) (.t 40)⟩] none)
     (.seq
      (.region [
       ⟨some 41, none, .mv (.t 5)⟩,
       ⟨some 42, none, .i2i .i64 (.t 41)⟩,
       ⟨some 43, none, .mv (.t 14)⟩,
       ⟨some 44, none, .bin .rem (.t 42) (.t 43)⟩,
       ⟨some 45, none, .bin .add (.c (.int .i64 1)) (.t 44)⟩,
       ⟨some 46, none, .build [.int .i64 0, .int .i64 0] [(0, 1, (.t 45)), (1, 1, (.c (.int .i64 1)))]⟩,
       ⟨some 17, none, .new [.int .i64 0, .int .i64 0]⟩,
       ⟨none, none, .store 2 (.t 17) (.t 46)⟩] none)
      (.seq
       (.region [
        ⟨some 47, none, .load true 2 (.t 17)⟩,
        ⟨some 48, none, .call 18 [(.t 47)]⟩,
        ⟨some 18, none, .new [.int .i64 0, .int .i64 0, .int .i64 0, .int .i64 0, .int .i64 0, .int .u32 0, .str ByteArray.empty, .str ByteArray.empty, .int .u32 0, .slc 0 true [], .int .u32 0, .int .i64 0, .int .u32 0, .int .i64 0, .bool false]⟩,
        ⟨none, none, .store 15 (.t 18) (.t 48)⟩] none)
       (.seq
        (.region [
         ⟨some 19, none, .mv (.c (.slc 0 true []))⟩] none)
        (.seq
         (.region [
          ⟨some 20, none, .mv (.c (.int .i64 0))⟩] none)
         (.seq
          (.region [
           ⟨some 21, none, .mv (.c (.int .i64 0))⟩] none)
          (.seq
           (.region [
            ⟨some 22, none, .mv (.c (.bool false))⟩] none)
           (.seq
            (.seq
             (.region [
              ⟨some 23, none, .mv (.c (.int .i64 0))⟩] none)
             (.block 0 (.loop (.seq
                (.seq
                 (.region [
                  ⟨some 49, none, .mv (.t 23)⟩,
                  ⟨some 50, none, .mv (.t 14)⟩,
                  ⟨some 51, none, .bin .quo (.t 50) (.c (.int .i64 2))⟩,
                  ⟨some 52, none, .bin .leq (.t 49) (.t 51)⟩] none)
                 (.cond (.t 52)
                  .skip
                  (.exit 0)))
                (.seq
                 (.block 1 (.seq
                   (.region [
                    ⟨some 55, none, .load true 15 (.t 18)⟩,
                    ⟨some 24, none, .new [.int .i64 0, .int .i64 0, .int .i64 0, .int .i64 0, .int .i64 0, .int .u32 0, .str ByteArray.empty, .str ByteArray.empty, .int .u32 0, .slc 0 true [], .int .u32 0, .int .i64 0, .int .u32 0, .int .i64 0, .bool false]⟩,
                    ⟨none, none, .store 15 (.t 24) (.t 55)⟩] none)
                   (.seq
                    (.seq
                     (.region [
                      ⟨some 56, none, .mv (.t 1)⟩,
                      ⟨some 57, none, .mv (.t 23)⟩,
                      ⟨some 58, none, .bin .shr (.t 56) (.t 57)⟩,
                      ⟨some 59, none, .bin .rem (.t 58) (.c (.int .u8 2))⟩,
                      ⟨some 60, none, .bin .eql (.t 59) (.c (.int .u8 1))⟩] none)
                     (.cond (.t 60)
                      (.seq
                       (.region [
                        ⟨some 61, none, .mv (.t 2)⟩,
                        ⟨some 62, none, .mv (.t 23)⟩,
                        ⟨some 63, none, .bin .shr (.t 61) (.t 62)⟩,
                        ⟨some 64, none, .bin .rem (.t 63) (.c (.int .u8 2))⟩,
                        ⟨some 65, none, .bin .eql (.t 64) (.c (.int .u8 1))⟩,
                        ⟨some 25, none, .mv (.t 65)⟩] none)
                       (.seq
                        (.region [
                         ⟨some 67, none, .load true 15 (.t 18)⟩,
                         ⟨some 68, none, .build [.int .u32 0, .int .i64 0] []⟩,
                         ⟨some 69, none, .load true 5 (.t 15)⟩,
                         ⟨some 70, none, .load true 2 (.t 16)⟩,
                         ⟨some 71, none, .mv (.t 25)⟩,
                         ⟨some 72, none, .call 20 [(.t 67), (.t 68), (.t 69), (.t 70), (.t 71)]⟩,
                         ⟨some 66, none, .mv (.t 72)⟩,
                         ⟨some 73, none, .ext (.t 66) 0⟩,
                         ⟨some 74, none, .ext (.t 66) 1⟩,
                         ⟨none, none, .store 15 (.t 24) (.t 73)⟩] none)
                        (.seq
                         (.region [
                          ⟨some 75, none, .mv (.t 21)⟩,
                          ⟨some 76, none, .bin .add (.t 75) (.c (.int .i64 1))⟩,
                          ⟨some 21, none, .mv (.t 76)⟩] none)
                         (.seq
                          (.seq
                           (.region [
                            ⟨some 77, none, .mv (.t 25)⟩] none)
                           (.cond (.t 77)
                            (.region [
                             ⟨some 78, none, .mv (.t 20)⟩,
                             ⟨some 79, none, .bin .add (.t 78) (.c (.int .i64 1))⟩,
                             ⟨some 20, none, .mv (.t 79)⟩] none)
                            .skip))
                          (.region [
                           ⟨some 80, none, .mv (.t 22)⟩,
                           ⟨some 81, none, .mv (.t 80)⟩,
                           ⟨some 82, some (81, false), .mv (.t 23)⟩,
                           ⟨some 83, some (81, false), .bin .add (.t 82) (.c (.int .i64 1))⟩,
                           ⟨some 84, some (81, false), .faddr 0 (.t 17)⟩,
                           ⟨some 85, some (81, false), .load false 1 (.t 84)⟩,
                           ⟨some 86, some (81, false), .bin .eql (.t 83) (.t 85)⟩,
                           ⟨some 87, none, .pick (.t 81) (.c (.bool true)) (.t 86)⟩,
                           ⟨some 22, none, .mv (.t 87)⟩] none)))))
                      .skip))
                    (.region [
                     ⟨some 88, none, .mv (.t 19)⟩,
                     ⟨some 89, none, .mv (.t 23)⟩,
                     ⟨some 90, none, .bin .add (.t 89) (.c (.int .i64 1))⟩,
                     ⟨some 91, none, .load true 15 (.t 24)⟩,
                     ⟨some 92, none, .build [.int .i64 0, .int .i64 0, .int .i64 0, .int .i64 0, .int .i64 0, .int .i64 0, .int .u32 0, .str ByteArray.empty, .str ByteArray.empty, .int .u32 0, .slc 0 true [], .int .u32 0, .int .i64 0, .int .u32 0, .int .i64 0, .bool false] [(0, 1, (.t 90)), (1, 15, (.t 91))]⟩,
                     ⟨some 93, none, .bslc 16 1 [.int .i64 0, .int .i64 0, .int .i64 0, .int .i64 0, .int .i64 0, .int .i64 0, .int .u32 0, .str ByteArray.empty, .str ByteArray.empty, .int .u32 0, .slc 0 true [], .int .u32 0, .int .i64 0, .int .u32 0, .int .i64 0, .bool false] [(0, 16, (.t 92))]⟩,
                     ⟨some 94, none, .app 16 160 (.t 88) (.t 93)⟩,
                     ⟨some 19, none, .mv (.t 94)⟩] none))))
                 (.region [
                  ⟨some 53, none, .mv (.t 23)⟩,
                  ⟨some 54, none, .bin .add (.t 53) (.c (.int .i64 1))⟩,
                  ⟨some 23, none, .mv (.t 54)⟩] none))))))
            (.seq
             (.region [
              ⟨some 95, none, .mv (.t 14)⟩,
              ⟨some 96, none, .faddr 0 (.t 17)⟩,
              ⟨some 97, none, .load false 1 (.t 96)⟩,
              ⟨some 98, none, .mv (.t 19)⟩,
              ⟨some 99, none, .call 11 [(.t 95), (.t 97), (.t 98)]⟩,
              ⟨some 26, none, .new [.int .i64 0, .int .i64 0, .int .i64 0, .int .u32 0, .str ByteArray.empty, .str ByteArray.empty, .int .u32 0, .slc 0 true []]⟩,
              ⟨none, none, .store 8 (.t 26) (.t 99)⟩] none)
             (.seq
              (.seq
               (.region [
                ⟨some 100, none, .mv (.t 21)⟩,
                ⟨some 101, none, .bin .eql (.t 100) (.c (.int .i64 0))⟩] none)
               (.cond (.t 101)
                (.seq
                 (.region [
                  ⟨some 102, none, .mv (.t 13)⟩,
                  ⟨some 103, none, .mv (.t 102)⟩,
                  ⟨some 104, some (103, true), .faddr 0 (.t 26)⟩,
                  ⟨some 105, some (103, true), .load false 1 (.t 104)⟩,
                  ⟨some 106, some (103, true), .bin .eql (.t 105) (.c (.int .i64 2))⟩,
                  ⟨some 107, none, .pick (.t 103) (.t 106) (.c (.bool false))⟩,
                  ⟨some 108, none, .mv (.t 107)⟩,
                  ⟨some 109, some (108, true), .faddr 1 (.t 26)⟩,
                  ⟨some 110, some (108, true), .faddr 0 (.t 109)⟩,
                  ⟨some 111, some (108, true), .load false 1 (.t 110)⟩,
                  ⟨some 112, some (108, true), .bin .eql (.t 111) (.c (.int .i64 0))⟩,
                  ⟨some 113, none, .pick (.t 108) (.t 112) (.c (.bool false))⟩,
                  ⟨some 114, none, .mv (.t 113)⟩,
                  ⟨some 115, some (114, true), .faddr 1 (.t 26)⟩,
                  ⟨some 116, some (114, true), .faddr 3 (.t 115)⟩,
                  ⟨some 117, some (114, true), .load false 1 (.t 116)⟩,
                  ⟨some 118, some (114, true), .bin .eql (.t 117) (.c (.str ByteArray.empty))⟩,
                  ⟨some 119, none, .pick (.t 114) (.t 118) (.c (.bool false))⟩,
                  ⟨some 120, none, .mv (.t 119)⟩,
                  ⟨some 121, some (120, true), .faddr 6 (.t 26)⟩,
                  ⟨some 122, some (120, true), .faddr 1 (.t 121)⟩,
                  ⟨some 123, some (120, true), .load false 1 (.t 122)⟩,
                  ⟨some 124, some (120, true), .len .slc (.t 123)⟩,
                  ⟨some 125, some (120, true), .bin .eql (.t 124) (.c (.int .i64 0))⟩,
                  ⟨some 126, none, .pick (.t 120) (.t 125) (.c (.bool false))⟩,
                  ⟨some 12, none, .mv (.t 126)⟩] none)
                 .ret)
                .skip))
              (.seq
               (.seq
                (.region [
                 ⟨some 127, none, .mv (.t 22)⟩,
                 ⟨some 128, none, .un .not (.t 127)⟩,
                 ⟨some 129, none, .mv (.t 128)⟩,
                 ⟨some 130, some (129, true), .mv (.t 20)⟩,
                 ⟨some 131, some (129, true), .mv (.t 14)⟩,
                 ⟨some 132, some (129, true), .bin .quo (.t 131) (.c (.int .i64 2))⟩,
                 ⟨some 133, some (129, true), .bin .geq (.t 130) (.t 132)⟩,
                 ⟨some 134, none, .pick (.t 129) (.t 133) (.c (.bool false))⟩] none)
                (.cond (.t 134)
                 (.seq
                  (.region [
                   ⟨some 135, none, .mv (.t 13)⟩,
                   ⟨some 136, none, .mv (.t 135)⟩,
                   ⟨some 137, some (136, true), .faddr 0 (.t 26)⟩,
                   ⟨some 138, some (136, true), .load false 1 (.t 137)⟩,
                   ⟨some 139, some (136, true), .bin .eql (.t 138) (.c (.int .i64 2))⟩,
                   ⟨some 140, none, .pick (.t 136) (.t 139) (.c (.bool false))⟩,
                   ⟨some 141, none, .mv (.t 140)⟩,
                   ⟨some 142, some (141, true), .faddr 1 (.t 26)⟩,
                   ⟨some 143, some (141, true), .load true 5 (.t 142)⟩,
                   ⟨some 144, some (141, true), .load true 5 (.t 15)⟩,
                   ⟨some 145, some (141, true), .eq (.key ⟨true, [.int, .int, .int, .str, .str]⟩) false (.t 143) (.t 144)⟩,
                   ⟨some 146, none, .pick (.t 141) (.t 145) (.c (.bool false))⟩,
                   ⟨some 147, none, .mv (.t 146)⟩,
                   ⟨some 148, some (147, true), .faddr 6 (.t 26)⟩,
                   ⟨some 149, some (147, true), .load true 2 (.t 148)⟩,
                   ⟨some 150, some (147, true), .load true 2 (.t 16)⟩,
                   ⟨some 151, some (147, true), .call 22 [(.t 149), (.t 150)]⟩,
                   ⟨some 152, none, .pick (.t 147) (.t 151) (.c (.bool false))⟩,
                   ⟨some 12, none, .mv (.t 152)⟩] none)
                  .ret)
                 .skip))
               (.seq
                (.region [
                 ⟨some 153, none, .mv (.t 13)⟩,
                 ⟨some 154, none, .mv (.t 153)⟩,
                 ⟨some 155, some (154, true), .faddr 0 (.t 26)⟩,
                 ⟨some 156, some (154, true), .load false 1 (.t 155)⟩,
                 ⟨some 157, some (154, true), .bin .eql (.t 156) (.c (.int .i64 3))⟩,
                 ⟨some 158, none, .pick (.t 154) (.t 157) (.c (.bool false))⟩,
                 ⟨some 159, none, .mv (.t 158)⟩,
                 ⟨some 160, some (159, true), .faddr 1 (.t 26)⟩,
                 ⟨some 161, some (159, true), .load true 5 (.t 160)⟩,
                 ⟨some 162, some (159, true), .load true 5 (.t 15)⟩,
                 ⟨some 163, some (159, true), .eq (.key ⟨true, [.int, .int, .int, .str, .str]⟩) false (.t 161) (.t 162)⟩,
                 ⟨some 164, none, .pick (.t 159) (.t 163) (.c (.bool false))⟩,
                 ⟨some 12, none, .mv (.t 164)⟩] none)
                .ret))))))))))))))))⟩
theorem nf6_ok : compF Try.prog 6 = some nf6 := by kernel_rfl

/-- comitia/comitialaw13.ChooseSlow -/
def nf7 : NF := ⟨171, [.tmp 16],
 (.seq
 (.region [
  ⟨some 9, none, .box (.t 1)⟩,
  ⟨some 10, none, .box (.t 2)⟩,
  ⟨some 11, none, .box (.t 3)⟩,
  ⟨some 16, none, .mv (.c (.bool false))⟩] none)
 (.seq
  (.region [
   ⟨some 35, none, .call 9 []⟩,
   ⟨some 17, none, .mv (.t 35)⟩] none)
  (.seq
   (.seq
    (.region [
     ⟨some 36, none, .mv (.t 17)⟩,
     ⟨some 37, none, .un .not (.t 36)⟩] none)
    (.cond (.t 37)
     (.seq
      (.region [
       ⟨some 16, none, .mv (.c (.bool false))⟩] none)
      .ret)
     .skip))
   (.seq
    (.region [
     ⟨some 38, none, .mv (.t 0)⟩,
     ⟨some 39, none, .bin .rem (.t 38) (.c (.int .u8 3))⟩,
     ⟨some 40, none, .i2i .i64 (.t 39)⟩,
     ⟨some 41, none, .bin .mul (.c (.int .i64 2)) (.t 40)⟩,
     ⟨some 42, none, .bin .add (.c (.int .i64 3)) (.t 41)⟩,
     ⟨some 18, none, .mv (.t 42)⟩] none)
    (.seq
     (.region [
      ⟨some 44, none, .load true 6 (.t 9)⟩,
      ⟨some 45, none, .load true 4 (.t 10)⟩,
      ⟨some 46, none, .call 19 [(.t 44), (.t 45)]⟩,
      ⟨some 43, none, .mv (.t 46)⟩,
      ⟨some 47, none, .ext (.t 43) 0⟩,
      ⟨some 48, none, .ext (.t 43) 1⟩,
      ⟨some 19, none, .new [.int .i64 0, .int .i64 0, .int .u32 0, .str ByteArray.empty, .str ByteArray.empty]⟩,
      ⟨some 20, none, .new [.int .u32 0, .slc 0 true []]⟩,
      ⟨none, none, .store 5 (.t 19) (.t 47)⟩,
      ⟨none, none, .store 2 (.t 20) (.t 48)⟩] none)
     (.seq
      (.region [
       ⟨some 49, none, .faddr 2 (.t 11)⟩,
       ⟨none, none, .store 1 (.t 49) (.c (.bool true))⟩] none)
      (.seq
       (.region [
        ⟨some 50, none, .mv (.t 4)⟩,
        ⟨some 51, none, .bin .rem (.t 50) (.c (.int .u8 5))⟩,
        ⟨some 52, none, .i2i .u32 (.t 51)⟩,
        ⟨some 53, none, .bin .add (.c (.int .u32 2)) (.t 52)⟩,
        ⟨some 54, none, .mv (.t 6)⟩,
        ⟨some 55, none, .bin .rem (.t 54) (.c (.int .u8 7))⟩,
        ⟨some 56, none, .i2i .i64 (.t 55)⟩,
        ⟨some 57, none, .bin .add (.c (.int .i64 1)) (.t 56)⟩,
        ⟨some 58, none, .build [.int .u32 0, .int .i64 0] [(0, 1, (.t 53)), (1, 1, (.t 57))]⟩,
        ⟨some 21, none, .new [.int .u32 0, .int .i64 0]⟩,
        ⟨none, none, .store 2 (.t 21) (.t 58)⟩] none)
       (.seq
        (.region [
         ⟨some 59, none, .mv (.t 6)⟩,
         ⟨some 60, none, .bin .quo (.t 59) (.c (.int .u8 7))⟩,
         ⟨some 61, none, .bin .rem (.t 60) (.c (.int .u8 7))⟩,
         ⟨some 62, none, .i2i .i64 (.t 61)⟩,
         ⟨some 63, none, .bin .add (.c (.int .i64 1)) (.t 62)⟩,
         ⟨some 64, none, .build [.int .u32 0, .int .i64 0] [(0, 1, (.c (.int .u32 1))), (1, 1, (.t 63))]⟩,
         ⟨some 22, none, .new [.int .u32 0, .int .i64 0]⟩,
         ⟨none, none, .store 2 (.t 22) (.t 64)⟩] none)
        (.seq
         (.region [
          ⟨some 65, none, .mv (.t 7)⟩,
          ⟨some 66, none, .i2i .i64 (.t 65)⟩,
          ⟨some 67, none, .mv (.t 18)⟩,
          ⟨some 68, none, .bin .rem (.t 66) (.t 67)⟩,
          ⟨some 69, none, .bin .add (.c (.int .i64 1)) (.t 68)⟩,
          ⟨some 70, none, .build [.int .i64 0, .int .i64 0] [(0, 1, (.t 69)), (1, 1, (.c (.int .i64 1)))]⟩,
          ⟨some 71, none, .call 18 [(.t 70)]⟩,
          ⟨some 23, none, .new [.int .i64 0, .int .i64 0, .int .i64 0, .int .i64 0, .int .i64 0, .int .u32 0, .str ByteArray.empty, .str ByteArray.empty, .int .u32 0, .slc 0 true [], .int .u32 0, .int .i64 0, .int .u32 0, .int .i64 0, .bool false]⟩,
          ⟨none, none, .store 15 (.t 23) (.t 71)⟩] none)
         (.seq
          (.region [
           ⟨some 73, none, .load true 15 (.t 23)⟩,
           ⟨some 74, none, .load true 2 (.t 21)⟩,
           ⟨some 75, none, .load true 5 (.t 19)⟩,
           ⟨some 76, none, .load true 2 (.t 20)⟩,
           ⟨some 77, none, .call 23 [(.t 73), (.t 74), (.t 75), (.t 76)]⟩,
           ⟨some 72, none, .mv (.t 77)⟩,
           ⟨some 78, none, .ext (.t 72) 0⟩,
           ⟨some 79, none, .ext (.t 72) 1⟩,
           ⟨some 24, none, .new [.int .i64 0, .int .i64 0, .int .i64 0, .int .i64 0, .int .i64 0, .int .u32 0, .str ByteArray.empty, .str ByteArray.empty, .int .u32 0, .slc 0 true [], .int .u32 0, .int .i64 0, .int .u32 0, .int .i64 0, .bool false]⟩,
           ⟨none, none, .store 15 (.t 24) (.t 78)⟩,
           ⟨some 25, none, .mv (.t 79)⟩] none)
          (.seq
           (.region [
            ⟨some 81, none, .load true 15 (.t 23)⟩,
            ⟨some 82, none, .load true 2 (.t 22)⟩,
            ⟨some 83, none, .build [.int .i64 0, .int .i64 0, .int .u32 0, .str ByteArray.empty, .str ByteArray.empty] []⟩,
            ⟨some 84, none, .load true 4 (.t 11)⟩,
            ⟨some 85, none, .call 21 [(.t 84)]⟩,
            ⟨some 86, none, .call 23 [(.t 81), (.t 82), (.t 83), (.t 85)]⟩,
            ⟨some 80, none, .mv (.t 86)⟩,
            ⟨some 87, none, .ext (.t 80) 0⟩,
            ⟨some 88, none, .ext (.t 80) 1⟩,
            ⟨some 26, none, .new [.int .i64 0, .int .i64 0, .int .i64 0, .int .i64 0, .int .i64 0, .int .u32 0, .str ByteArray.empty, .str ByteArray.empty, .int .u32 0, .slc 0 true [], .int .u32 0, .int .i64 0, .int .u32 0, .int .i64 0, .bool false]⟩,
            ⟨none, none, .store 15 (.t 26) (.t 87)⟩,
            ⟨some 27, none, .mv (.t 88)⟩] (some (11, [0, 0, 0, 0, 8, 31, 63, 127, 127, 0, 767, 2047], 1280)))
           (.seq
            (.seq
             (.region [
              ⟨some 89, none, .mv (.t 6)⟩,
              ⟨some 90, none, .bin .rem (.t 89) (.c (.int .u8 3))⟩,
              ⟨some 91, none, .bin .eql (.t 90) (.c (.int .u8 0))⟩] none)
             (.cond (.t 91)
              (.region [
               ⟨some 93, none, .load true 15 (.t 23)⟩,
               ⟨some 94, none, .build [.int .u32 0, .int .i64 0] []⟩,
               ⟨some 95, none, .load true 5 (.t 19)⟩,
               ⟨some 96, none, .load true 4 (.t 11)⟩,
               ⟨some 97, none, .call 21 [(.t 96)]⟩,
               ⟨some 98, none, .call 20 [(.t 93), (.t 94), (.t 95), (.t 97), (.c (.bool true))]⟩,
               ⟨some 92, none, .mv (.t 98)⟩,
               ⟨some 99, none, .ext (.t 92) 0⟩,
               ⟨some 100, none, .ext (.t 92) 1⟩,
               ⟨none, none, .store 15 (.t 26) (.t 99)⟩] (some (10, [0, 0, 0, 0, 8, 31, 63, 127, 127, 255], 2560)))
              .skip))
            (.seq
             (.region [
              ⟨some 101, none, .mv (.t 18)⟩,
              ⟨some 102, none, .bin .add (.t 101) (.c (.int .i64 1))⟩,
              ⟨some 103, none, .mkslc 1 1 [.bool false] (.t 102) (.t 102)⟩,
              ⟨some 28, none, .mv (.t 103)⟩] none)
             (.seq
              (.seq
               (.region [
                ⟨some 29, none, .mv (.c (.int .i64 0))⟩] none)
               (.block 0 (.loop (.seq
                  (.seq
                   (.region [
                    ⟨some 104, none, .mv (.t 29)⟩,
                    ⟨some 105, none, .mv (.t 18)⟩,
                    ⟨some 106, none, .bin .quo (.t 105) (.c (.int .i64 2))⟩,
                    ⟨some 107, none, .bin .leq (.t 104) (.t 106)⟩] none)
                   (.cond (.t 107)
                    .skip
                    (.exit 0)))
                  (.seq
                   (.block 1 (.region [
                     ⟨some 110, none, .mv (.t 28)⟩,
                     ⟨some 111, none, .mv (.t 29)⟩,
                     ⟨some 112, none, .mv (.t 5)⟩,
                     ⟨some 113, none, .i2i .i64 (.t 112)⟩,
                     ⟨some 114, none, .bin .add (.t 111) (.t 113)⟩,
                     ⟨some 115, none, .mv (.t 18)⟩,
                     ⟨some 116, none, .bin .rem (.t 114) (.t 115)⟩,
                     ⟨some 117, none, .bin .add (.c (.int .i64 1)) (.t 116)⟩,
                     ⟨some 118, none, .iaddr (.slc 1) (.t 110) (.t 117)⟩,
                     ⟨none, none, .store 1 (.t 118) (.c (.bool true))⟩] none))
                   (.region [
                    ⟨some 108, none, .mv (.t 29)⟩,
                    ⟨some 109, none, .bin .add (.t 108) (.c (.int .i64 1))⟩,
                    ⟨some 29, none, .mv (.t 109)⟩] none))))))
              (.seq
               (.region [
                ⟨some 30, none, .mv (.c (.slc 0 true []))⟩] none)
               (.seq
                (.seq
                 (.region [
                  ⟨some 31, none, .mv (.c (.int .i64 0))⟩] none)
                 (.block 2 (.loop (.seq
                    (.seq
                     (.region [
                      ⟨some 119, none, .mv (.t 31)⟩,
                      ⟨some 120, none, .mv (.t 18)⟩,
                      ⟨some 121, none, .bin .quo (.t 120) (.c (.int .i64 2))⟩,
                      ⟨some 122, none, .bin .leq (.t 119) (.t 121)⟩] none)
                     (.cond (.t 122)
                      .skip
                      (.exit 2)))
                    (.seq
                     (.block 3 (.seq
                       (.region [
                        ⟨some 125, none, .mv (.t 31)⟩,
                        ⟨some 126, none, .mv (.t 6)⟩,
                        ⟨some 127, none, .i2i .i64 (.t 126)⟩,
                        ⟨some 128, none, .bin .add (.t 125) (.t 127)⟩,
                        ⟨some 129, none, .mv (.t 18)⟩,
                        ⟨some 130, none, .bin .rem (.t 128) (.t 129)⟩,
                        ⟨some 131, none, .bin .add (.c (.int .i64 1)) (.t 130)⟩,
                        ⟨some 32, none, .mv (.t 131)⟩] none)
                       (.seq
                        (.region [
                         ⟨some 132, none, .load true 15 (.t 26)⟩,
                         ⟨some 33, none, .new [.int .i64 0, .int .i64 0, .int .i64 0, .int .i64 0, .int .i64 0, .int .u32 0, .str ByteArray.empty, .str ByteArray.empty, .int .u32 0, .slc 0 true [], .int .u32 0, .int .i64 0, .int .u32 0, .int .i64 0, .bool false]⟩,
                         ⟨none, none, .store 15 (.t 33) (.t 132)⟩] none)
                        (.seq
                         (.seq
                          (.region [
                           ⟨some 133, none, .mv (.t 28)⟩,
                           ⟨some 134, none, .mv (.t 32)⟩,
                           ⟨some 135, none, .iaddr (.slc 1) (.t 133) (.t 134)⟩,
                           ⟨some 136, none, .load false 1 (.t 135)⟩] none)
                          (.cond (.t 136)
                           (.region [
                            ⟨some 137, none, .load true 15 (.t 24)⟩,
                            ⟨none, none, .store 15 (.t 33) (.t 137)⟩] none)
                           .skip))
                         (.region [
                          ⟨some 138, none, .mv (.t 30)⟩,
                          ⟨some 139, none, .mv (.t 32)⟩,
                          ⟨some 140, none, .load true 15 (.t 33)⟩,
                          ⟨some 141, none, .build [.int .i64 0, .int .i64 0, .int .i64 0, .int .i64 0, .int .i64 0, .int .i64 0, .int .u32 0, .str ByteArray.empty, .str ByteArray.empty, .int .u32 0, .slc 0 true [], .int .u32 0, .int .i64 0, .int .u32 0, .int .i64 0, .bool false] [(0, 1, (.t 139)), (1, 15, (.t 140))]⟩,
                          ⟨some 142, none, .bslc 16 1 [.int .i64 0, .int .i64 0, .int .i64 0, .int .i64 0, .int .i64 0, .int .i64 0, .int .u32 0, .str ByteArray.empty, .str ByteArray.empty, .int .u32 0, .slc 0 true [], .int .u32 0, .int .i64 0, .int .u32 0, .int .i64 0, .bool false] [(0, 16, (.t 141))]⟩,
                          ⟨some 143, none, .app 16 160 (.t 138) (.t 142)⟩,
                          ⟨some 30, none, .mv (.t 143)⟩] none)))))
                     (.region [
                      ⟨some 123, none, .mv (.t 31)⟩,
                      ⟨some 124, none, .bin .add (.t 123) (.c (.int .i64 1))⟩,
                      ⟨some 31, none, .mv (.t 124)⟩] none))))))
                (.seq
                 (.region [
                  ⟨some 144, none, .mv (.t 18)⟩,
                  ⟨some 145, none, .faddr 0 (.t 23)⟩,
                  ⟨some 146, none, .faddr 0 (.t 145)⟩,
                  ⟨some 147, none, .load false 1 (.t 146)⟩,
                  ⟨some 148, none, .mv (.t 30)⟩,
                  ⟨some 149, none, .call 11 [(.t 144), (.t 147), (.t 148)]⟩,
                  ⟨some 34, none, .new [.int .i64 0, .int .i64 0, .int .i64 0, .int .u32 0, .str ByteArray.empty, .str ByteArray.empty, .int .u32 0, .slc 0 true []]⟩,
                  ⟨none, none, .store 8 (.t 34) (.t 149)⟩] none)
                 (.seq
                  (.region [
                   ⟨some 150, none, .mv (.t 17)⟩,
                   ⟨some 151, none, .mv (.t 150)⟩,
                   ⟨some 152, some (151, true), .mv (.t 25)⟩,
                   ⟨some 153, none, .pick (.t 151) (.t 152) (.c (.bool false))⟩,
                   ⟨some 154, none, .mv (.t 153)⟩,
                   ⟨some 155, some (154, true), .faddr 0 (.t 34)⟩,
                   ⟨some 156, some (154, true), .load false 1 (.t 155)⟩,
                   ⟨some 157, some (154, true), .bin .eql (.t 156) (.c (.int .i64 2))⟩,
                   ⟨some 158, none, .pick (.t 154) (.t 157) (.c (.bool false))⟩,
                   ⟨some 159, none, .mv (.t 158)⟩,
                   ⟨some 160, some (159, true), .faddr 1 (.t 34)⟩,
                   ⟨some 161, some (159, true), .load true 5 (.t 160)⟩,
                   ⟨some 162, some (159, true), .load true 5 (.t 19)⟩,
                   ⟨some 163, some (159, true), .eq (.key ⟨true, [.int, .int, .int, .str, .str]⟩) false (.t 161) (.t 162)⟩,
                   ⟨some 164, none, .pick (.t 159) (.t 163) (.c (.bool false))⟩,
                   ⟨some 165, none, .mv (.t 164)⟩,
                   ⟨some 166, some (165, true), .faddr 6 (.t 34)⟩,
                   ⟨some 167, some (165, true), .load true 2 (.t 166)⟩,
                   ⟨some 168, some (165, true), .load true 2 (.t 20)⟩,
                   ⟨some 169, some (165, true), .call 22 [(.t 167), (.t 168)]⟩,
                   ⟨some 170, none, .pick (.t 165) (.t 169) (.c (.bool false))⟩,
                   ⟨some 16, none, .mv (.t 170)⟩] none)
                  .ret))))))))))))))))))⟩
theorem nf7_ok : compF Try.prog 7 = some nf7 := by kernel_rfl

/-- comitia/comitialaw13.ChooseCommitted -/
def nf8 : NF := ⟨117, [.tmp 12],
 (.seq
 (.region [
  ⟨some 7, none, .box (.t 1)⟩,
  ⟨some 8, none, .box (.t 2)⟩,
  ⟨some 12, none, .mv (.c (.bool false))⟩] none)
 (.seq
  (.region [
   ⟨some 24, none, .call 9 []⟩,
   ⟨some 13, none, .mv (.t 24)⟩] none)
  (.seq
   (.seq
    (.region [
     ⟨some 25, none, .mv (.t 13)⟩,
     ⟨some 26, none, .un .not (.t 25)⟩] none)
    (.cond (.t 26)
     (.seq
      (.region [
       ⟨some 12, none, .mv (.c (.bool false))⟩] none)
      .ret)
     .skip))
   (.seq
    (.region [
     ⟨some 27, none, .mv (.t 0)⟩,
     ⟨some 28, none, .bin .rem (.t 27) (.c (.int .u8 3))⟩,
     ⟨some 29, none, .i2i .i64 (.t 28)⟩,
     ⟨some 30, none, .bin .mul (.c (.int .i64 2)) (.t 29)⟩,
     ⟨some 31, none, .bin .add (.c (.int .i64 3)) (.t 30)⟩,
     ⟨some 14, none, .mv (.t 31)⟩] none)
    (.seq
     (.region [
      ⟨some 33, none, .load true 6 (.t 7)⟩,
      ⟨some 34, none, .load true 4 (.t 8)⟩,
      ⟨some 35, none, .call 19 [(.t 33), (.t 34)]⟩,
      ⟨some 32, none, .mv (.t 35)⟩,
      ⟨some 36, none, .ext (.t 32) 0⟩,
      ⟨some 37, none, .ext (.t 32) 1⟩,
      ⟨some 15, none, .new [.int .i64 0, .int .i64 0, .int .u32 0, .str ByteArray.empty, .str ByteArray.empty]⟩,
      ⟨some 16, none, .new [.int .u32 0, .slc 0 true []]⟩,
      ⟨none, none, .store 5 (.t 15) (.t 36)⟩,
      ⟨none, none, .store 2 (.t 16) (.t 37)⟩] none)
     (.seq
      (.region [
       ⟨some 39, none, .build [.int .i64 0, .int .i64 0] [(0, 1, (.c (.int .i64 1))), (1, 1, (.c (.int .i64 1)))]⟩,
       ⟨some 40, none, .call 18 [(.t 39)]⟩,
       ⟨some 41, none, .load true 5 (.t 15)⟩,
       ⟨some 42, none, .load true 2 (.t 16)⟩,
       ⟨some 43, none, .call 24 [(.t 40), (.t 41), (.t 42)]⟩,
       ⟨some 38, none, .mv (.t 43)⟩,
       ⟨some 44, none, .ext (.t 38) 0⟩,
       ⟨some 45, none, .ext (.t 38) 1⟩,
       ⟨some 17, none, .new [.int .i64 0, .int .i64 0, .int .i64 0, .int .i64 0, .int .i64 0, .int .u32 0, .str ByteArray.empty, .str ByteArray.empty, .int .u32 0, .slc 0 true [], .int .u32 0, .int .i64 0, .int .u32 0, .int .i64 0, .bool false]⟩,
       ⟨none, none, .store 15 (.t 17) (.t 44)⟩,
       ⟨some 18, none, .mv (.t 45)⟩] (some (10, [0, 1, 0, 0, 15, 31, 63, 63, 0, 383, 1023], 260)))
      (.seq
       (.seq
        (.region [
         ⟨some 46, none, .mv (.t 5)⟩] none)
        (.cond (.t 46)
         (.region [
          ⟨some 48, none, .load true 15 (.t 17)⟩,
          ⟨some 49, none, .call 25 [(.t 48)]⟩,
          ⟨some 47, none, .mv (.t 49)⟩,
          ⟨some 50, none, .ext (.t 47) 0⟩,
          ⟨some 51, none, .ext (.t 47) 1⟩,
          ⟨none, none, .store 15 (.t 17) (.t 50)⟩,
          ⟨some 18, none, .mv (.t 51)⟩] none)
         .skip))
       (.seq
        (.region [
         ⟨some 19, none, .mv (.c (.slc 0 true []))⟩] none)
        (.seq
         (.seq
          (.region [
           ⟨some 20, none, .mv (.c (.int .i64 0))⟩] none)
          (.block 0 (.loop (.seq
             (.seq
              (.region [
               ⟨some 52, none, .mv (.t 20)⟩,
               ⟨some 53, none, .mv (.t 14)⟩,
               ⟨some 54, none, .bin .quo (.t 53) (.c (.int .i64 2))⟩,
               ⟨some 55, none, .bin .leq (.t 52) (.t 54)⟩] none)
              (.cond (.t 55)
               .skip
               (.exit 0)))
             (.seq
              (.block 1 (.seq
                (.region [
                 ⟨some 58, none, .mv (.t 20)⟩,
                 ⟨some 59, none, .bin .add (.t 58) (.c (.int .i64 1))⟩,
                 ⟨some 60, none, .build [.int .i64 0, .int .i64 0] [(0, 1, (.c (.int .i64 1))), (1, 1, (.c (.int .i64 1)))]⟩,
                 ⟨some 61, none, .call 18 [(.t 60)]⟩,
                 ⟨some 62, none, .build [.int .i64 0, .int .i64 0, .int .i64 0, .int .i64 0, .int .i64 0, .int .i64 0, .int .u32 0, .str ByteArray.empty, .str ByteArray.empty, .int .u32 0, .slc 0 true [], .int .u32 0, .int .i64 0, .int .u32 0, .int .i64 0, .bool false] [(0, 1, (.t 59)), (1, 15, (.t 61))]⟩,
                 ⟨some 21, none, .new [.int .i64 0, .int .i64 0, .int .i64 0, .int .i64 0, .int .i64 0, .int .i64 0, .int .u32 0, .str ByteArray.empty, .str ByteArray.empty, .int .u32 0, .slc 0 true [], .int .u32 0, .int .i64 0, .int .u32 0, .int .i64 0, .bool false]⟩,
                 ⟨none, none, .store 16 (.t 21) (.t 62)⟩] none)
                (.seq
                 (.seq
                  (.region [
                   ⟨some 63, none, .mv (.t 20)⟩,
                   ⟨some 64, none, .mv (.t 3)⟩,
                   ⟨some 65, none, .len .slc (.t 64)⟩,
                   ⟨some 66, none, .bin .lss (.t 63) (.t 65)⟩] none)
                  (.cond (.t 66)
                   (.seq
                    (.region [
                     ⟨some 67, none, .mv (.t 3)⟩,
                     ⟨some 68, none, .mv (.t 20)⟩,
                     ⟨some 69, none, .iaddr (.slc 29) (.t 67) (.t 68)⟩,
                     ⟨some 70, none, .load true 29 (.t 69)⟩,
                     ⟨some 22, none, .new [.int .i64 0, .int .i64 0, .int .i64 0, .int .i64 0, .int .i64 0, .int .u32 0, .str ByteArray.empty, .str ByteArray.empty, .int .u32 0, .slc 0 true [], .int .u32 0, .int .i64 0, .int .u32 0, .int .i64 0, .bool false, .bool false, .int .i64 0, .int .i64 0, .int .u32 0, .str ByteArray.empty, .str ByteArray.empty, .bool false, .int .u32 0, .slc 0 true [], .bool false, .slc 0 true [], .int .u8 0, .int .u8 0, .int .u8 0]⟩,
                     ⟨none, none, .store 29 (.t 22) (.t 70)⟩] none)
                    (.seq
                     (.region [
                      ⟨some 71, none, .faddr 15 (.t 22)⟩,
                      ⟨none, none, .store 1 (.t 71) (.c (.bool true))⟩] none)
                     (.seq
                      (.region [
                       ⟨some 72, none, .faddr 28 (.t 22)⟩,
                       ⟨some 73, none, .load false 1 (.t 72)⟩,
                       ⟨some 74, none, .bin .rem (.t 73) (.c (.int .u8 3))⟩,
                       ⟨some 75, none, .faddr 28 (.t 22)⟩,
                       ⟨none, none, .store 1 (.t 75) (.t 74)⟩] none)
                      (.region [
                       ⟨some 76, none, .load true 29 (.t 22)⟩,
                       ⟨some 77, none, .call 26 [(.t 76)]⟩,
                       ⟨some 78, none, .faddr 1 (.t 21)⟩,
                       ⟨none, none, .store 15 (.t 78) (.t 77)⟩] none))))
                   .skip))
                 (.seq
                  (.seq
                   (.region [
                    ⟨some 79, none, .mv (.t 20)⟩,
                    ⟨some 80, none, .mv (.t 4)⟩,
                    ⟨some 81, none, .i2i .i64 (.t 80)⟩,
                    ⟨some 82, none, .mv (.t 14)⟩,
                    ⟨some 83, none, .bin .quo (.t 82) (.c (.int .i64 2))⟩,
                    ⟨some 84, none, .bin .add (.t 83) (.c (.int .i64 1))⟩,
                    ⟨some 85, none, .bin .rem (.t 81) (.t 84)⟩,
                    ⟨some 86, none, .bin .eql (.t 79) (.t 85)⟩] none)
                   (.cond (.t 86)
                    (.region [
                     ⟨some 87, none, .load true 15 (.t 17)⟩,
                     ⟨some 88, none, .faddr 1 (.t 21)⟩,
                     ⟨none, none, .store 15 (.t 88) (.t 87)⟩] none)
                    .skip))
                  (.region [
                   ⟨some 89, none, .mv (.t 19)⟩,
                   ⟨some 90, none, .load true 16 (.t 21)⟩,
                   ⟨some 91, none, .bslc 16 1 [.int .i64 0, .int .i64 0, .int .i64 0, .int .i64 0, .int .i64 0, .int .i64 0, .int .u32 0, .str ByteArray.empty, .str ByteArray.empty, .int .u32 0, .slc 0 true [], .int .u32 0, .int .i64 0, .int .u32 0, .int .i64 0, .bool false] [(0, 16, (.t 90))]⟩,
                   ⟨some 92, none, .app 16 160 (.t 89) (.t 91)⟩,
                   ⟨some 19, none, .mv (.t 92)⟩] none)))))
              (.region [
               ⟨some 56, none, .mv (.t 20)⟩,
               ⟨some 57, none, .bin .add (.t 56) (.c (.int .i64 1))⟩,
               ⟨some 20, none, .mv (.t 57)⟩] none))))))
         (.seq
          (.region [
           ⟨some 93, none, .mv (.t 14)⟩,
           ⟨some 94, none, .mv (.t 19)⟩,
           ⟨some 95, none, .call 11 [(.t 93), (.c (.int .i64 1)), (.t 94)]⟩,
           ⟨some 23, none, .new [.int .i64 0, .int .i64 0, .int .i64 0, .int .u32 0, .str ByteArray.empty, .str ByteArray.empty, .int .u32 0, .slc 0 true []]⟩,
           ⟨none, none, .store 8 (.t 23) (.t 95)⟩] none)
          (.seq
           (.region [
            ⟨some 96, none, .mv (.t 13)⟩,
            ⟨some 97, none, .mv (.t 96)⟩,
            ⟨some 98, some (97, true), .mv (.t 18)⟩,
            ⟨some 99, none, .pick (.t 97) (.t 98) (.c (.bool false))⟩,
            ⟨some 100, none, .mv (.t 99)⟩,
            ⟨some 101, some (100, true), .faddr 0 (.t 23)⟩,
            ⟨some 102, some (100, true), .load false 1 (.t 101)⟩,
            ⟨some 103, some (100, true), .bin .eql (.t 102) (.c (.int .i64 1))⟩,
            ⟨some 104, none, .pick (.t 100) (.t 103) (.c (.bool false))⟩,
            ⟨some 105, none, .mv (.t 104)⟩,
            ⟨some 106, some (105, true), .faddr 1 (.t 23)⟩,
            ⟨some 107, some (105, true), .load true 5 (.t 106)⟩,
            ⟨some 108, some (105, true), .load true 5 (.t 15)⟩,
            ⟨some 109, some (105, true), .eq (.key ⟨true, [.int, .int, .int, .str, .str]⟩) false (.t 107) (.t 108)⟩,
            ⟨some 110, none, .pick (.t 105) (.t 109) (.c (.bool false))⟩,
            ⟨some 111, none, .mv (.t 110)⟩,
            ⟨some 112, some (111, true), .faddr 6 (.t 23)⟩,
            ⟨some 113, some (111, true), .load true 2 (.t 112)⟩,
            ⟨some 114, some (111, true), .load true 2 (.t 16)⟩,
            ⟨some 115, some (111, true), .call 22 [(.t 113), (.t 114)]⟩,
            ⟨some 116, none, .pick (.t 111) (.t 115) (.c (.bool false))⟩,
            ⟨some 12, none, .mv (.t 116)⟩] none)
           .ret)))))))))))⟩
theorem nf8_ok : compF Try.prog 8 = some nf8 := by kernel_rfl

/-- comitia/comitialaw13.examples -/
def nf9 : NF := ⟨126, [.tmp 0],
 (.seq
 (.region [
  ⟨some 0, none, .mv (.c (.bool false))⟩] none)
 (.seq
  (.region [
   ⟨some 12, none, .build [.int .i64 0, .int .i64 0, .int .u32 0, .str ByteArray.empty, .str ByteArray.empty] [(0, 1, (.c (.int .i64 2))), (1, 1, (.c (.int .i64 1))), (2, 1, (.c (.int .u32 1))), (3, 1, (.c (.str ⟨#[107]⟩)))]⟩,
   ⟨some 1, none, .new [.int .i64 0, .int .i64 0, .int .u32 0, .str ByteArray.empty, .str ByteArray.empty]⟩,
   ⟨none, none, .store 5 (.t 1) (.t 12)⟩] none)
  (.seq
   (.region [
    ⟨some 13, none, .build [.int .i64 0, .int .i64 0] [(0, 1, (.c (.int .i64 1))), (1, 1, (.c (.int .i64 1)))]⟩,
    ⟨some 14, none, .call 18 [(.t 13)]⟩,
    ⟨some 2, none, .new [.int .i64 0, .int .i64 0, .int .i64 0, .int .i64 0, .int .i64 0, .int .u32 0, .str ByteArray.empty, .str ByteArray.empty, .int .u32 0, .slc 0 true [], .int .u32 0, .int .i64 0, .int .u32 0, .int .i64 0, .bool false]⟩,
    ⟨none, none, .store 15 (.t 2) (.t 14)⟩] none)
   (.seq
    (.region [
     ⟨some 16, none, .load true 15 (.t 2)⟩,
     ⟨some 17, none, .build [.int .u32 0, .int .i64 0] []⟩,
     ⟨some 18, none, .load true 5 (.t 1)⟩,
     ⟨some 19, none, .build [.int .u32 0, .slc 0 true []] [(0, 1, (.c (.int .u32 4)))]⟩,
     ⟨some 20, none, .call 20 [(.t 16), (.t 17), (.t 18), (.t 19), (.c (.bool true))]⟩,
     ⟨some 15, none, .mv (.t 20)⟩,
     ⟨some 21, none, .ext (.t 15) 0⟩,
     ⟨some 22, none, .ext (.t 15) 1⟩,
     ⟨some 3, none, .new [.int .i64 0, .int .i64 0, .int .i64 0, .int .i64 0, .int .i64 0, .int .u32 0, .str ByteArray.empty, .str ByteArray.empty, .int .u32 0, .slc 0 true [], .int .u32 0, .int .i64 0, .int .u32 0, .int .i64 0, .bool false]⟩,
     ⟨none, none, .store 15 (.t 3) (.t 21)⟩,
     ⟨some 4, none, .mv (.t 22)⟩] none)
    (.seq
     (.region [
      ⟨some 24, none, .load true 15 (.t 2)⟩,
      ⟨some 25, none, .build [.int .u32 0, .int .i64 0] []⟩,
      ⟨some 26, none, .load true 5 (.t 1)⟩,
      ⟨some 27, none, .build [.int .u32 0, .slc 0 true []] [(0, 1, (.c (.int .u32 5)))]⟩,
      ⟨some 28, none, .call 20 [(.t 24), (.t 25), (.t 26), (.t 27), (.c (.bool false))]⟩,
      ⟨some 23, none, .mv (.t 28)⟩,
      ⟨some 29, none, .ext (.t 23) 0⟩,
      ⟨some 30, none, .ext (.t 23) 1⟩,
      ⟨some 5, none, .new [.int .i64 0, .int .i64 0, .int .i64 0, .int .i64 0, .int .i64 0, .int .u32 0, .str ByteArray.empty, .str ByteArray.empty, .int .u32 0, .slc 0 true [], .int .u32 0, .int .i64 0, .int .u32 0, .int .i64 0, .bool false]⟩,
      ⟨none, none, .store 15 (.t 5) (.t 29)⟩,
      ⟨some 6, none, .mv (.t 30)⟩] none)
     (.seq
      (.region [
       ⟨some 31, none, .load true 15 (.t 3)⟩,
       ⟨some 32, none, .build [.int .i64 0, .int .i64 0, .int .i64 0, .int .i64 0, .int .i64 0, .int .i64 0, .int .u32 0, .str ByteArray.empty, .str ByteArray.empty, .int .u32 0, .slc 0 true [], .int .u32 0, .int .i64 0, .int .u32 0, .int .i64 0, .bool false] [(0, 1, (.c (.int .i64 2))), (1, 15, (.t 31))]⟩,
       ⟨some 33, none, .bslc 16 1 [.int .i64 0, .int .i64 0, .int .i64 0, .int .i64 0, .int .i64 0, .int .i64 0, .int .u32 0, .str ByteArray.empty, .str ByteArray.empty, .int .u32 0, .slc 0 true [], .int .u32 0, .int .i64 0, .int .u32 0, .int .i64 0, .bool false] [(0, 16, (.t 32))]⟩,
       ⟨some 34, none, .call 11 [(.c (.int .i64 3)), (.c (.int .i64 1)), (.t 33)]⟩,
       ⟨some 7, none, .new [.int .i64 0, .int .i64 0, .int .i64 0, .int .u32 0, .str ByteArray.empty, .str ByteArray.empty, .int .u32 0, .slc 0 true []]⟩,
       ⟨none, none, .store 8 (.t 7) (.t 34)⟩] none)
      (.seq
       (.region [
        ⟨some 35, none, .load true 15 (.t 3)⟩,
        ⟨some 36, none, .build [.int .i64 0, .int .i64 0, .int .i64 0, .int .i64 0, .int .i64 0, .int .i64 0, .int .u32 0, .str ByteArray.empty, .str ByteArray.empty, .int .u32 0, .slc 0 true [], .int .u32 0, .int .i64 0, .int .u32 0, .int .i64 0, .bool false] [(0, 1, (.c (.int .i64 2))), (1, 15, (.t 35))]⟩,
        ⟨some 37, none, .load true 15 (.t 2)⟩,
        ⟨some 38, none, .build [.int .i64 0, .int .i64 0, .int .i64 0, .int .i64 0, .int .i64 0, .int .i64 0, .int .u32 0, .str ByteArray.empty, .str ByteArray.empty, .int .u32 0, .slc 0 true [], .int .u32 0, .int .i64 0, .int .u32 0, .int .i64 0, .bool false] [(0, 1, (.c (.int .i64 3))), (1, 15, (.t 37))]⟩,
        ⟨some 39, none, .bslc 16 2 [.int .i64 0, .int .i64 0, .int .i64 0, .int .i64 0, .int .i64 0, .int .i64 0, .int .u32 0, .str ByteArray.empty, .str ByteArray.empty, .int .u32 0, .slc 0 true [], .int .u32 0, .int .i64 0, .int .u32 0, .int .i64 0, .bool false, .int .i64 0, .int .i64 0, .int .i64 0, .int .i64 0, .int .i64 0, .int .i64 0, .int .u32 0, .str ByteArray.empty, .str ByteArray.empty, .int .u32 0, .slc 0 true [], .int .u32 0, .int .i64 0, .int .u32 0, .int .i64 0, .bool false] [(0, 16, (.t 36)), (16, 16, (.t 38))]⟩,
        ⟨some 40, none, .call 11 [(.c (.int .i64 3)), (.c (.int .i64 1)), (.t 39)]⟩,
        ⟨some 8, none, .new [.int .i64 0, .int .i64 0, .int .i64 0, .int .u32 0, .str ByteArray.empty, .str ByteArray.empty, .int .u32 0, .slc 0 true []]⟩,
        ⟨none, none, .store 8 (.t 8) (.t 40)⟩] none)
       (.seq
        (.region [
         ⟨some 41, none, .load true 15 (.t 5)⟩,
         ⟨some 42, none, .build [.int .i64 0, .int .i64 0, .int .i64 0, .int .i64 0, .int .i64 0, .int .i64 0, .int .u32 0, .str ByteArray.empty, .str ByteArray.empty, .int .u32 0, .slc 0 true [], .int .u32 0, .int .i64 0, .int .u32 0, .int .i64 0, .bool false] [(0, 1, (.c (.int .i64 2))), (1, 15, (.t 41))]⟩,
         ⟨some 43, none, .load true 15 (.t 2)⟩,
         ⟨some 44, none, .build [.int .i64 0, .int .i64 0, .int .i64 0, .int .i64 0, .int .i64 0, .int .i64 0, .int .u32 0, .str ByteArray.empty, .str ByteArray.empty, .int .u32 0, .slc 0 true [], .int .u32 0, .int .i64 0, .int .u32 0, .int .i64 0, .bool false] [(0, 1, (.c (.int .i64 3))), (1, 15, (.t 43))]⟩,
         ⟨some 45, none, .bslc 16 2 [.int .i64 0, .int .i64 0, .int .i64 0, .int .i64 0, .int .i64 0, .int .i64 0, .int .u32 0, .str ByteArray.empty, .str ByteArray.empty, .int .u32 0, .slc 0 true [], .int .u32 0, .int .i64 0, .int .u32 0, .int .i64 0, .bool false, .int .i64 0, .int .i64 0, .int .i64 0, .int .i64 0, .int .i64 0, .int .i64 0, .int .u32 0, .str ByteArray.empty, .str ByteArray.empty, .int .u32 0, .slc 0 true [], .int .u32 0, .int .i64 0, .int .u32 0, .int .i64 0, .bool false] [(0, 16, (.t 42)), (16, 16, (.t 44))]⟩,
         ⟨some 46, none, .call 11 [(.c (.int .i64 3)), (.c (.int .i64 1)), (.t 45)]⟩,
         ⟨some 9, none, .new [.int .i64 0, .int .i64 0, .int .i64 0, .int .u32 0, .str ByteArray.empty, .str ByteArray.empty, .int .u32 0, .slc 0 true []]⟩,
         ⟨none, none, .store 8 (.t 9) (.t 46)⟩] none)
        (.seq
         (.region [
          ⟨some 47, none, .load true 15 (.t 3)⟩,
          ⟨some 48, none, .build [.int .i64 0, .int .i64 0, .int .i64 0, .int .i64 0, .int .i64 0, .int .i64 0, .int .u32 0, .str ByteArray.empty, .str ByteArray.empty, .int .u32 0, .slc 0 true [], .int .u32 0, .int .i64 0, .int .u32 0, .int .i64 0, .bool false] [(0, 1, (.c (.int .i64 1))), (1, 15, (.t 47))]⟩,
          ⟨some 49, none, .load true 15 (.t 3)⟩,
          ⟨some 50, none, .build [.int .i64 0, .int .i64 0, .int .i64 0, .int .i64 0, .int .i64 0, .int .i64 0, .int .u32 0, .str ByteArray.empty, .str ByteArray.empty, .int .u32 0, .slc 0 true [], .int .u32 0, .int .i64 0, .int .u32 0, .int .i64 0, .bool false] [(0, 1, (.c (.int .i64 2))), (1, 15, (.t 49))]⟩,
          ⟨some 51, none, .bslc 16 2 [.int .i64 0, .int .i64 0, .int .i64 0, .int .i64 0, .int .i64 0, .int .i64 0, .int .u32 0, .str ByteArray.empty, .str ByteArray.empty, .int .u32 0, .slc 0 true [], .int .u32 0, .int .i64 0, .int .u32 0, .int .i64 0, .bool false, .int .i64 0, .int .i64 0, .int .i64 0, .int .i64 0, .int .i64 0, .int .i64 0, .int .u32 0, .str ByteArray.empty, .str ByteArray.empty, .int .u32 0, .slc 0 true [], .int .u32 0, .int .i64 0, .int .u32 0, .int .i64 0, .bool false] [(0, 16, (.t 48)), (16, 16, (.t 50))]⟩,
          ⟨some 52, none, .call 11 [(.c (.int .i64 3)), (.c (.int .i64 1)), (.t 51)]⟩,
          ⟨some 10, none, .new [.int .i64 0, .int .i64 0, .int .i64 0, .int .u32 0, .str ByteArray.empty, .str ByteArray.empty, .int .u32 0, .slc 0 true []]⟩,
          ⟨none, none, .store 8 (.t 10) (.t 52)⟩] none)
         (.seq
          (.region [
           ⟨some 53, none, .load true 15 (.t 2)⟩,
           ⟨some 54, none, .build [.int .i64 0, .int .i64 0, .int .i64 0, .int .i64 0, .int .i64 0, .int .i64 0, .int .u32 0, .str ByteArray.empty, .str ByteArray.empty, .int .u32 0, .slc 0 true [], .int .u32 0, .int .i64 0, .int .u32 0, .int .i64 0, .bool false] [(0, 1, (.c (.int .i64 2))), (1, 15, (.t 53))]⟩,
           ⟨some 55, none, .load true 15 (.t 2)⟩,
           ⟨some 56, none, .build [.int .i64 0, .int .i64 0, .int .i64 0, .int .i64 0, .int .i64 0, .int .i64 0, .int .u32 0, .str ByteArray.empty, .str ByteArray.empty, .int .u32 0, .slc 0 true [], .int .u32 0, .int .i64 0, .int .u32 0, .int .i64 0, .bool false] [(0, 1, (.c (.int .i64 3))), (1, 15, (.t 55))]⟩,
           ⟨some 57, none, .bslc 16 2 [.int .i64 0, .int .i64 0, .int .i64 0, .int .i64 0, .int .i64 0, .int .i64 0, .int .u32 0, .str ByteArray.empty, .str ByteArray.empty, .int .u32 0, .slc 0 true [], .int .u32 0, .int .i64 0, .int .u32 0, .int .i64 0, .bool false, .int .i64 0, .int .i64 0, .int .i64 0, .int .i64 0, .int .i64 0, .int .i64 0, .int .u32 0, .str ByteArray.empty, .str ByteArray.empty, .int .u32 0, .slc 0 true [], .int .u32 0, .int .i64 0, .int .u32 0, .int .i64 0, .bool false] [(0, 16, (.t 54)), (16, 16, (.t 56))]⟩,
           ⟨some 58, none, .call 11 [(.c (.int .i64 3)), (.c (.int .i64 1)), (.t 57)]⟩,
           ⟨some 11, none, .new [.int .i64 0, .int .i64 0, .int .i64 0, .int .u32 0, .str ByteArray.empty, .str ByteArray.empty, .int .u32 0, .slc 0 true []]⟩,
           ⟨none, none, .store 8 (.t 11) (.t 58)⟩] none)
          (.seq
           (.region [
            ⟨some 59, none, .faddr 0 (.t 7)⟩,
            ⟨some 60, none, .load false 1 (.t 59)⟩,
            ⟨some 61, none, .bin .eql (.t 60) (.c (.int .i64 0))⟩,
            ⟨some 62, none, .mv (.t 61)⟩,
            ⟨some 63, some (62, true), .faddr 0 (.t 8)⟩,
            ⟨some 64, some (62, true), .load false 1 (.t 63)⟩,
            ⟨some 65, some (62, true), .bin .eql (.t 64) (.c (.int .i64 2))⟩,
            ⟨some 66, none, .pick (.t 62) (.t 65) (.c (.bool false))⟩,
            ⟨some 67, none, .mv (.t 66)⟩,
            ⟨some 68, some (67, true), .faddr 6 (.t 8)⟩,
            ⟨some 69, some (67, true), .faddr 0 (.t 68)⟩,
            ⟨some 70, some (67, true), .load false 1 (.t 69)⟩,
            ⟨some 71, some (67, true), .bin .eql (.t 70) (.c (.int .u32 4))⟩,
            ⟨some 72, none, .pick (.t 67) (.t 71) (.c (.bool false))⟩,
            ⟨some 73, none, .mv (.t 72)⟩,
            ⟨some 74, some (73, true), .faddr 1 (.t 8)⟩,
            ⟨some 75, some (73, true), .load true 5 (.t 74)⟩,
            ⟨some 76, some (73, true), .load true 5 (.t 1)⟩,
            ⟨some 77, some (73, true), .eq (.key ⟨true, [.int, .int, .int, .str, .str]⟩) false (.t 75) (.t 76)⟩,
            ⟨some 78, none, .pick (.t 73) (.t 77) (.c (.bool false))⟩,
            ⟨some 79, none, .mv (.t 78)⟩,
            ⟨some 80, some (79, true), .faddr 0 (.t 9)⟩,
            ⟨some 81, some (79, true), .load false 1 (.t 80)⟩,
            ⟨some 82, some (79, true), .bin .eql (.t 81) (.c (.int .i64 3))⟩,
            ⟨some 83, none, .pick (.t 79) (.t 82) (.c (.bool false))⟩,
            ⟨some 84, none, .mv (.t 83)⟩,
            ⟨some 85, some (84, true), .faddr 1 (.t 9)⟩,
            ⟨some 86, some (84, true), .load true 5 (.t 85)⟩,
            ⟨some 87, some (84, true), .load true 5 (.t 1)⟩,
            ⟨some 88, some (84, true), .eq (.key ⟨true, [.int, .int, .int, .str, .str]⟩) false (.t 86) (.t 87)⟩,
            ⟨some 89, none, .pick (.t 84) (.t 88) (.c (.bool false))⟩,
            ⟨some 90, none, .mv (.t 89)⟩,
            ⟨some 91, some (90, true), .faddr 6 (.t 9)⟩,
            ⟨some 92, some (90, true), .faddr 0 (.t 91)⟩,
            ⟨some 93, some (90, true), .load false 1 (.t 92)⟩,
            ⟨some 94, some (90, true), .bin .eql (.t 93) (.c (.int .u32 0))⟩,
            ⟨some 95, none, .pick (.t 90) (.t 94) (.c (.bool false))⟩,
            ⟨some 96, none, .mv (.t 95)⟩,
            ⟨some 97, some (96, true), .faddr 0 (.t 10)⟩,
            ⟨some 98, some (96, true), .load false 1 (.t 97)⟩,
            ⟨some 99, some (96, true), .bin .eql (.t 98) (.c (.int .i64 3))⟩,
            ⟨some 100, none, .pick (.t 96) (.t 99) (.c (.bool false))⟩,
            ⟨some 101, none, .mv (.t 100)⟩,
            ⟨some 102, some (101, true), .faddr 0 (.t 11)⟩,
            ⟨some 103, some (101, true), .load false 1 (.t 102)⟩,
            ⟨some 104, some (101, true), .bin .eql (.t 103) (.c (.int .i64 2))⟩,
            ⟨some 105, none, .pick (.t 101) (.t 104) (.c (.bool false))⟩,
            ⟨some 106, none, .mv (.t 105)⟩,
            ⟨some 107, some (106, true), .faddr 1 (.t 11)⟩,
            ⟨some 108, some (106, true), .faddr 0 (.t 107)⟩,
            ⟨some 109, some (106, true), .load false 1 (.t 108)⟩,
            ⟨some 110, some (106, true), .bin .eql (.t 109) (.c (.int .i64 0))⟩,
            ⟨some 111, none, .pick (.t 106) (.t 110) (.c (.bool false))⟩,
            ⟨some 112, none, .mv (.t 111)⟩,
            ⟨some 113, some (112, true), .build [.int .i64 0, .int .i64 0, .int .i64 0, .int .i64 0, .int .i64 0, .int .i64 0, .int .u32 0, .str ByteArray.empty, .str ByteArray.empty, .int .u32 0, .slc 0 true [], .int .u32 0, .int .i64 0, .int .u32 0, .int .i64 0, .bool false] [(0, 1, (.c (.int .i64 1)))]⟩,
            ⟨some 114, some (112, true), .build [.int .i64 0, .int .i64 0, .int .i64 0, .int .i64 0, .int .i64 0, .int .i64 0, .int .u32 0, .str ByteArray.empty, .str ByteArray.empty, .int .u32 0, .slc 0 true [], .int .u32 0, .int .i64 0, .int .u32 0, .int .i64 0, .bool false] [(0, 1, (.c (.int .i64 3)))]⟩,
            ⟨some 115, some (112, true), .bslc 16 2 [.int .i64 0, .int .i64 0, .int .i64 0, .int .i64 0, .int .i64 0, .int .i64 0, .int .u32 0, .str ByteArray.empty, .str ByteArray.empty, .int .u32 0, .slc 0 true [], .int .u32 0, .int .i64 0, .int .u32 0, .int .i64 0, .bool false, .int .i64 0, .int .i64 0, .int .i64 0, .int .i64 0, .int .i64 0, .int .i64 0, .int .u32 0, .str ByteArray.empty, .str ByteArray.empty, .int .u32 0, .slc 0 true [], .int .u32 0, .int .i64 0, .int .u32 0, .int .i64 0, .bool false] [(0, 16, (.t 113)), (16, 16, (.t 114))]⟩,
            ⟨some 116, some (112, true), .call 15 [(.c (.int .i64 3)), (.t 115)]⟩,
            ⟨some 117, none, .pick (.t 112) (.t 116) (.c (.bool false))⟩,
            ⟨some 118, none, .mv (.t 117)⟩,
            ⟨some 119, some (118, true), .build [.int .i64 0, .int .i64 0, .int .i64 0, .int .i64 0, .int .i64 0, .int .i64 0, .int .u32 0, .str ByteArray.empty, .str ByteArray.empty, .int .u32 0, .slc 0 true [], .int .u32 0, .int .i64 0, .int .u32 0, .int .i64 0, .bool false] [(0, 1, (.c (.int .i64 1)))]⟩,
            ⟨some 120, some (118, true), .build [.int .i64 0, .int .i64 0, .int .i64 0, .int .i64 0, .int .i64 0, .int .i64 0, .int .u32 0, .str ByteArray.empty, .str ByteArray.empty, .int .u32 0, .slc 0 true [], .int .u32 0, .int .i64 0, .int .u32 0, .int .i64 0, .bool false] [(0, 1, (.c (.int .i64 2)))]⟩,
            ⟨some 121, some (118, true), .build [.int .i64 0, .int .i64 0, .int .i64 0, .int .i64 0, .int .i64 0, .int .i64 0, .int .u32 0, .str ByteArray.empty, .str ByteArray.empty, .int .u32 0, .slc 0 true [], .int .u32 0, .int .i64 0, .int .u32 0, .int .i64 0, .bool false] [(0, 1, (.c (.int .i64 3)))]⟩,
            ⟨some 122, some (118, true), .bslc 16 3 [.int .i64 0, .int .i64 0, .int .i64 0, .int .i64 0, .int .i64 0, .int .i64 0, .int .u32 0, .str ByteArray.empty, .str ByteArray.empty, .int .u32 0, .slc 0 true [], .int .u32 0, .int .i64 0, .int .u32 0, .int .i64 0, .bool false, .int .i64 0, .int .i64 0, .int .i64 0, .int .i64 0, .int .i64 0, .int .i64 0, .int .u32 0, .str ByteArray.empty, .str ByteArray.empty, .int .u32 0, .slc 0 true [], .int .u32 0, .int .i64 0, .int .u32 0, .int .i64 0, .bool false, .int .i64 0, .int .i64 0, .int .i64 0, .int .i64 0, .int .i64 0, .int .i64 0, .int .u32 0, .str ByteArray.empty, .str ByteArray.empty, .int .u32 0, .slc 0 true [], .int .u32 0, .int .i64 0, .int .u32 0, .int .i64 0, .bool false] [(0, 16, (.t 119)), (16, 16, (.t 120)), (32, 16, (.t 121))]⟩,
            ⟨some 123, some (118, true), .call 15 [(.c (.int .i64 4)), (.t 122)]⟩,
            ⟨some 124, some (118, true), .un .not (.t 123)⟩,
            ⟨some 125, none, .pick (.t 118) (.t 124) (.c (.bool false))⟩,
            ⟨some 0, none, .mv (.t 125)⟩] none)
           .ret)))))))))))⟩
theorem nf9_ok : compF Try.prog 9 = some nf9 := by kernel_rfl

/-- comitia/comitialaw13.replies -/
def nf10 : NF := ⟨53, [.tmp 2, .tmp 3],
 (.seq
 (.region [
  ⟨some 2, none, .mv (.c (.slc 0 true []))⟩,
  ⟨some 3, none, .mv (.c (.slc 0 true []))⟩] none)
 (.seq
  (.region [
   ⟨some 4, none, .mv (.c (.slc 0 true []))⟩] none)
  (.seq
   (.region [
    ⟨some 5, none, .mv (.c (.slc 0 true []))⟩] none)
   (.seq
    (.seq
     (.region [
      ⟨some 6, none, .mv (.c (.int .i64 0))⟩] none)
     (.block 0 (.loop (.seq
        (.seq
         (.region [
          ⟨some 8, none, .mv (.t 6)⟩,
          ⟨some 9, none, .mv (.t 0)⟩,
          ⟨some 10, none, .len .slc (.t 9)⟩,
          ⟨some 11, none, .bin .lss (.t 8) (.t 10)⟩,
          ⟨some 12, none, .mv (.t 11)⟩,
          ⟨some 13, some (12, true), .mv (.t 6)⟩,
          ⟨some 14, some (12, true), .bin .lss (.t 13) (.c (.int .i64 9))⟩,
          ⟨some 15, none, .pick (.t 12) (.t 14) (.c (.bool false))⟩] none)
         (.cond (.t 15)
          .skip
          (.exit 0)))
        (.seq
         (.block 1 (.seq
           (.region [
            ⟨some 18, none, .mv (.t 0)⟩,
            ⟨some 19, none, .mv (.t 6)⟩,
            ⟨some 20, none, .iaddr (.slc 30) (.t 18) (.t 19)⟩,
            ⟨some 21, none, .faddr 0 (.t 20)⟩,
            ⟨some 22, none, .load false 1 (.t 21)⟩,
            ⟨some 7, none, .mv (.t 22)⟩] none)
           (.seq
            (.seq
             (.region [
              ⟨some 23, none, .mv (.t 7)⟩,
              ⟨some 24, none, .bin .rem (.t 23) (.c (.int .i64 5))⟩,
              ⟨some 25, none, .bin .gtr (.t 24) (.c (.int .i64 0))⟩] none)
             (.cond (.t 25)
              (.region [
               ⟨some 26, none, .mv (.t 7)⟩,
               ⟨some 27, none, .bin .rem (.t 26) (.c (.int .i64 9))⟩,
               ⟨some 7, none, .mv (.t 27)⟩] none)
              .skip))
            (.seq
             (.region [
              ⟨some 28, none, .mv (.t 4)⟩,
              ⟨some 29, none, .mv (.t 7)⟩,
              ⟨some 30, none, .mv (.t 0)⟩,
              ⟨some 31, none, .mv (.t 6)⟩,
              ⟨some 32, none, .iaddr (.slc 30) (.t 30) (.t 31)⟩,
              ⟨some 33, none, .faddr 1 (.t 32)⟩,
              ⟨some 34, none, .load true 29 (.t 33)⟩,
              ⟨some 35, none, .call 26 [(.t 34)]⟩,
              ⟨some 36, none, .build [.int .i64 0, .int .i64 0, .int .i64 0, .int .i64 0, .int .i64 0, .int .i64 0, .int .u32 0, .str ByteArray.empty, .str ByteArray.empty, .int .u32 0, .slc 0 true [], .int .u32 0, .int .i64 0, .int .u32 0, .int .i64 0, .bool false] [(0, 1, (.t 29)), (1, 15, (.t 35))]⟩,
              ⟨some 37, none, .bslc 16 1 [.int .i64 0, .int .i64 0, .int .i64 0, .int .i64 0, .int .i64 0, .int .i64 0, .int .u32 0, .str ByteArray.empty, .str ByteArray.empty, .int .u32 0, .slc 0 true [], .int .u32 0, .int .i64 0, .int .u32 0, .int .i64 0, .bool false] [(0, 16, (.t 36))]⟩,
              ⟨some 38, none, .app 16 160 (.t 28) (.t 37)⟩,
              ⟨some 4, none, .mv (.t 38)⟩] none)
             (.region [
              ⟨some 39, none, .mv (.t 5)⟩,
              ⟨some 40, none, .mv (.t 7)⟩,
              ⟨some 41, none, .mv (.t 0)⟩,
              ⟨some 42, none, .mv (.t 6)⟩,
              ⟨some 43, none, .iaddr (.slc 30) (.t 41) (.t 42)⟩,
              ⟨some 44, none, .faddr 1 (.t 43)⟩,
              ⟨some 45, none, .load true 29 (.t 44)⟩,
              ⟨some 46, none, .call 26 [(.t 45)]⟩,
              ⟨some 47, none, .call 27 [(.t 46)]⟩,
              ⟨some 48, none, .build [.int .i64 0, .int .i64 0, .int .i64 0, .int .i64 0, .int .i64 0, .int .i64 0, .int .u32 0, .str ByteArray.empty, .str ByteArray.empty, .int .u32 0, .slc 0 true [], .int .u32 0, .int .i64 0, .int .u32 0, .int .i64 0, .bool false] [(0, 1, (.t 40)), (1, 15, (.t 47))]⟩,
              ⟨some 49, none, .bslc 16 1 [.int .i64 0, .int .i64 0, .int .i64 0, .int .i64 0, .int .i64 0, .int .i64 0, .int .u32 0, .str ByteArray.empty, .str ByteArray.empty, .int .u32 0, .slc 0 true [], .int .u32 0, .int .i64 0, .int .u32 0, .int .i64 0, .bool false] [(0, 16, (.t 48))]⟩,
              ⟨some 50, none, .app 16 160 (.t 39) (.t 49)⟩,
              ⟨some 5, none, .mv (.t 50)⟩] none)))))
         (.region [
          ⟨some 16, none, .mv (.t 6)⟩,
          ⟨some 17, none, .bin .add (.t 16) (.c (.int .i64 1))⟩,
          ⟨some 6, none, .mv (.t 17)⟩] none))))))
    (.seq
     (.region [
      ⟨some 51, none, .mv (.t 4)⟩,
      ⟨some 52, none, .mv (.t 5)⟩,
      ⟨some 2, none, .mv (.t 51)⟩,
      ⟨some 3, none, .mv (.t 52)⟩] none)
     .ret)))))⟩
theorem nf10_ok : compF Try.prog 10 = some nf10 := by kernel_rfl

/-- comitia/choose.Choose -/
def nf11 : NF := ⟨65, [.cell 6 true 8],
 (.seq
 (.region [
  ⟨some 4, none, .box (.t 1)⟩,
  ⟨some 5, none, .box (.t 2)⟩,
  ⟨some 6, none, .new [.int .i64 0, .int .i64 0, .int .i64 0, .int .u32 0, .str ByteArray.empty, .str ByteArray.empty, .int .u32 0, .slc 0 true []]⟩] none)
 (.scope (.seq
   (.region [
    ⟨some 11, none, .mkfn 28 [(.t 5)]⟩,
    ⟨some 7, none, .mv (.t 11)⟩] none)
   (.seq
    (.region [
     ⟨some 8, none, .mv (.c (.fn 31 []))⟩] none)
    (.seq
     (.region [
      ⟨some 12, none, .mkfn 33 [(.t 4)]⟩,
      ⟨some 9, none, .mv (.t 12)⟩] none)
     (.seq
      (.region [
       ⟨some 10, none, .mv (.c (.slc 0 true []))⟩] none)
      (.seq
       (.seq
        (.region [
         ⟨some 13, none, .mv (.t 0)⟩,
         ⟨some 14, none, .load false 1 (.t 5)⟩,
         ⟨some 15, none, .call 15 [(.t 13), (.t 14)]⟩,
         ⟨some 16, none, .un .not (.t 15)⟩] none)
        (.cond (.t 16)
         (.seq
          (.region [
           ⟨some 17, none, .build [.int .i64 0, .int .i64 0, .int .i64 0, .int .u32 0, .str ByteArray.empty, .str ByteArray.empty, .int .u32 0, .slc 0 true []] []⟩,
           ⟨none, none, .store 8 (.t 6) (.t 17)⟩] none)
          .ret)
         .skip))
       (.seq
        (.region [
         ⟨some 18, none, .mv (.t 0)⟩,
         ⟨some 19, none, .load false 1 (.t 5)⟩,
         ⟨some 20, none, .call 34 [(.t 18), (.t 19)]⟩,
         ⟨none, none, .store 1 (.t 5) (.t 20)⟩] none)
        (.seq
         (.seq
          (.region [
           ⟨some 21, none, .mv (.t 7)⟩,
           ⟨some 22, none, .dyn (.t 21) [(.c (.int .i64 3)), (.c (.int .i64 4))]⟩,
           ⟨some 10, none, .mv (.t 22)⟩] none)
          (.seq
           (.region [
            ⟨some 23, none, .mv (.t 10)⟩,
            ⟨some 24, none, .len .slc (.t 23)⟩,
            ⟨some 25, none, .bin .gtr (.t 24) (.c (.int .i64 0))⟩] none)
           (.cond (.t 25)
            (.goto 0)
            .skip)))
         (.seq
          (.seq
           (.region [
            ⟨some 26, none, .mv (.t 7)⟩,
            ⟨some 27, none, .dyn (.t 26) [(.c (.int .i64 2)), (.c (.int .i64 2))]⟩,
            ⟨some 10, none, .mv (.t 27)⟩] none)
           (.seq
            (.region [
             ⟨some 28, none, .mv (.t 10)⟩,
             ⟨some 29, none, .len .slc (.t 28)⟩,
             ⟨some 30, none, .bin .gtr (.t 29) (.c (.int .i64 0))⟩] none)
            (.cond (.t 30)
             (.goto 1)
             .skip)))
          (.seq
           (.seq
            (.region [
             ⟨some 31, none, .load false 1 (.t 5)⟩,
             ⟨some 32, none, .mv (.t 8)⟩,
             ⟨some 33, none, .call 29 [(.t 31), (.t 32)]⟩,
             ⟨some 10, none, .mv (.t 33)⟩] none)
            (.seq
             (.region [
              ⟨some 34, none, .mv (.t 10)⟩,
              ⟨some 35, none, .len .slc (.t 34)⟩,
              ⟨some 36, none, .mv (.t 0)⟩,
              ⟨some 37, none, .call 35 [(.t 36)]⟩,
              ⟨some 38, none, .bin .geq (.t 35) (.t 37)⟩,
              ⟨some 39, none, .mv (.t 38)⟩,
              ⟨some 40, some (39, true), .load false 1 (.t 5)⟩,
              ⟨some 41, some (39, true), .mv (.t 9)⟩,
              ⟨some 42, some (39, true), .call 29 [(.t 40), (.t 41)]⟩,
              ⟨some 43, some (39, true), .len .slc (.t 42)⟩,
              ⟨some 44, some (39, true), .bin .eql (.t 43) (.c (.int .i64 0))⟩,
              ⟨some 45, none, .pick (.t 39) (.t 44) (.c (.bool false))⟩] none)
             (.cond (.t 45)
              (.seq
               (.region [
                ⟨some 46, none, .mv (.t 10)⟩,
                ⟨some 47, none, .slice (.slc 15) (.t 46) none (some (.c (.int .i64 1))) none⟩,
                ⟨some 10, none, .mv (.t 47)⟩] none)
               (.goto 1))
              .skip)))
           (.seq
            (.seq
             (.region [
              ⟨some 48, none, .mv (.t 7)⟩,
              ⟨some 49, none, .dyn (.t 48) [(.c (.int .i64 1)), (.c (.int .i64 1))]⟩,
              ⟨some 10, none, .mv (.t 49)⟩] none)
             (.seq
              (.region [
               ⟨some 50, none, .mv (.t 10)⟩,
               ⟨some 51, none, .len .slc (.t 50)⟩,
               ⟨some 52, none, .bin .gtr (.t 51) (.c (.int .i64 0))⟩] none)
              (.cond (.t 52)
               (.seq
                (.region [
                 ⟨some 53, none, .mv (.t 10)⟩,
                 ⟨some 54, none, .call 36 [(.t 53)]⟩,
                 ⟨some 55, none, .field true 3 5 (.t 54)⟩,
                 ⟨some 56, none, .build [.int .i64 0, .int .i64 0, .int .i64 0, .int .u32 0, .str ByteArray.empty, .str ByteArray.empty, .int .u32 0, .slc 0 true []] [(0, 1, (.c (.int .i64 3))), (1, 5, (.t 55))]⟩,
                 ⟨none, none, .store 8 (.t 6) (.t 56)⟩] none)
                .ret)
               .skip)))
            (.seq
             (.seq
              (.region [
               ⟨some 57, none, .build [.int .i64 0, .int .i64 0, .int .i64 0, .int .u32 0, .str ByteArray.empty, .str ByteArray.empty, .int .u32 0, .slc 0 true []] [(0, 1, (.c (.int .i64 2)))]⟩,
               ⟨none, none, .store 8 (.t 6) (.t 57)⟩] none)
              .ret)
             (.seq
              (.label 0)
              (.seq
               (.seq
                (.region [
                 ⟨some 58, none, .mv (.t 10)⟩,
                 ⟨some 59, none, .iaddr (.slc 15) (.t 58) (.c (.int .i64 0))⟩,
                 ⟨some 60, none, .load true 15 (.t 59)⟩,
                 ⟨some 61, none, .call 37 [(.c (.int .i64 1)), (.t 60)]⟩,
                 ⟨none, none, .store 8 (.t 6) (.t 61)⟩] none)
                .ret)
               (.seq
                (.label 1)
                (.seq
                 (.region [
                  ⟨some 62, none, .mv (.t 10)⟩,
                  ⟨some 63, none, .call 36 [(.t 62)]⟩,
                  ⟨some 64, none, .call 37 [(.c (.int .i64 2)), (.t 63)]⟩,
                  ⟨none, none, .store 8 (.t 6) (.t 64)⟩] none)
                 .ret)))))))))))))))))⟩
theorem nf11_ok : compF Try.prog 11 = some nf11 := by kernel_rfl

/-- comitia/comitiaref13.Choose -/
def nf12 : NF := ⟨126, [.cell 6 true 8],
 (.seq
 (.region [
  ⟨some 6, none, .new [.int .i64 0, .int .i64 0, .int .i64 0, .int .u32 0, .str ByteArray.empty, .str ByteArray.empty, .int .u32 0, .slc 0 true []]⟩] none)
 (.seq
  (.seq
   (.region [
    ⟨some 14, none, .mv (.t 0)⟩,
    ⟨some 15, none, .mv (.t 2)⟩,
    ⟨some 16, none, .call 16 [(.t 14), (.t 15)]⟩,
    ⟨some 17, none, .un .not (.t 16)⟩] none)
   (.cond (.t 17)
    (.seq
     (.region [
      ⟨some 18, none, .build [.int .i64 0, .int .i64 0, .int .i64 0, .int .u32 0, .str ByteArray.empty, .str ByteArray.empty, .int .u32 0, .slc 0 true []] []⟩,
      ⟨none, none, .store 8 (.t 6) (.t 18)⟩] none)
     .ret)
    .skip))
  (.seq
   (.region [
    ⟨some 19, none, .mv (.t 0)⟩,
    ⟨some 20, none, .mv (.t 2)⟩,
    ⟨some 21, none, .call 38 [(.t 19), (.t 20)]⟩,
    ⟨some 2, none, .mv (.t 21)⟩] none)
   (.seq
    (.region [
     ⟨some 7, none, .mv (.c (.bool false))⟩] none)
    (.seq
     (.region [
      ⟨some 8, none, .mv (.c (.int .i64 0))⟩] none)
     (.seq
      (.region [
       ⟨some 9, none, .mv (.c (.int .i64 (-1)))⟩] none)
      (.seq
       (.seq
        (.region [
         ⟨some 10, none, .mv (.c (.int .i64 0))⟩] none)
        (.block 0 (.loop (.seq
           (.seq
            (.region [
             ⟨some 22, none, .mv (.t 10)⟩,
             ⟨some 23, none, .mv (.t 2)⟩,
             ⟨some 24, none, .len .slc (.t 23)⟩,
             ⟨some 25, none, .bin .lss (.t 22) (.t 24)⟩] none)
            (.cond (.t 25)
             .skip
             (.exit 0)))
           (.seq
            (.block 1 (.seq
              (.region [
               ⟨some 28, none, .mv (.t 2)⟩,
               ⟨some 29, none, .mv (.t 10)⟩,
               ⟨some 30, none, .iaddr (.slc 16) (.t 28) (.t 29)⟩,
               ⟨some 31, none, .faddr 1 (.t 30)⟩,
               ⟨some 32, none, .load true 15 (.t 31)⟩,
               ⟨some 11, none, .new [.int .i64 0, .int .i64 0, .int .i64 0, .int .i64 0, .int .i64 0, .int .u32 0, .str ByteArray.empty, .str ByteArray.empty, .int .u32 0, .slc 0 true [], .int .u32 0, .int .i64 0, .int .u32 0, .int .i64 0, .bool false]⟩,
               ⟨none, none, .store 15 (.t 11) (.t 32)⟩] none)
              (.seq
               (.seq
                (.region [
                 ⟨some 33, none, .faddr 2 (.t 11)⟩,
                 ⟨some 34, none, .load false 1 (.t 33)⟩,
                 ⟨some 35, none, .bin .eql (.t 34) (.c (.int .i64 3))⟩,
                 ⟨some 36, none, .mv (.t 35)⟩,
                 ⟨some 37, some (36, false), .faddr 2 (.t 11)⟩,
                 ⟨some 38, some (36, false), .load false 1 (.t 37)⟩,
                 ⟨some 39, some (36, false), .bin .eql (.t 38) (.c (.int .i64 4))⟩,
                 ⟨some 40, none, .pick (.t 36) (.c (.bool true)) (.t 39)⟩] none)
                (.cond (.t 40)
                 (.seq
                  (.region [
                   ⟨some 41, none, .faddr 3 (.t 11)⟩,
                   ⟨some 42, none, .load true 5 (.t 41)⟩,
                   ⟨some 43, none, .faddr 8 (.t 11)⟩,
                   ⟨some 44, none, .load true 2 (.t 43)⟩,
                   ⟨some 45, none, .build [.int .i64 0, .int .i64 0, .int .i64 0, .int .u32 0, .str ByteArray.empty, .str ByteArray.empty, .int .u32 0, .slc 0 true []] [(0, 1, (.c (.int .i64 1))), (1, 5, (.t 42)), (6, 2, (.t 44))]⟩,
                   ⟨none, none, .store 8 (.t 6) (.t 45)⟩] none)
                  .ret)
                 .skip))
               (.seq
                (.seq
                 (.region [
                  ⟨some 46, none, .mv (.t 2)⟩,
                  ⟨some 47, none, .mv (.t 10)⟩,
                  ⟨some 48, none, .iaddr (.slc 16) (.t 46) (.t 47)⟩,
                  ⟨some 49, none, .faddr 0 (.t 48)⟩,
                  ⟨some 50, none, .load false 1 (.t 49)⟩,
                  ⟨some 51, none, .mv (.t 1)⟩,
                  ⟨some 52, none, .bin .eql (.t 50) (.t 51)⟩,
                  ⟨some 53, none, .mv (.t 52)⟩,
                  ⟨some 54, some (53, true), .faddr 2 (.t 11)⟩,
                  ⟨some 55, some (53, true), .load false 1 (.t 54)⟩,
                  ⟨some 56, some (53, true), .bin .neq (.t 55) (.c (.int .i64 0))⟩,
                  ⟨some 57, none, .pick (.t 53) (.t 56) (.c (.bool false))⟩] none)
                 (.cond (.t 57)
                  (.region [
                   ⟨some 7, none, .mv (.c (.bool true))⟩] none)
                  .skip))
                (.seq
                 (.region [
                  ⟨some 58, none, .faddr 2 (.t 11)⟩,
                  ⟨some 59, none, .load false 1 (.t 58)⟩,
                  ⟨some 60, none, .bin .eql (.t 59) (.c (.int .i64 1))⟩,
                  ⟨some 61, none, .mv (.t 60)⟩,
                  ⟨some 62, some (61, true), .faddr 12 (.t 11)⟩,
                  ⟨some 63, some (61, true), .load true 2 (.t 62)⟩,
                  ⟨some 64, some (61, true), .build [.int .u32 0, .int .i64 0] []⟩,
                  ⟨some 65, some (61, true), .eq (.key ⟨true, [.int, .int]⟩) false (.t 63) (.t 64)⟩,
                  ⟨some 66, none, .pick (.t 61) (.t 65) (.c (.bool false))⟩,
                  ⟨some 67, none, .mv (.t 66)⟩,
                  ⟨some 68, some (67, true), .faddr 14 (.t 11)⟩,
                  ⟨some 69, some (67, true), .load false 1 (.t 68)⟩,
                  ⟨some 70, none, .pick (.t 67) (.t 69) (.c (.bool false))⟩] none)
                 (.cond (.t 70)
                  (.seq
                   (.region [
                    ⟨some 71, none, .mv (.t 8)⟩,
                    ⟨some 72, none, .bin .add (.t 71) (.c (.int .i64 1))⟩,
                    ⟨some 8, none, .mv (.t 72)⟩] none)
                   (.seq
                    (.region [
                     ⟨some 73, none, .mv (.t 9)⟩,
                     ⟨some 74, none, .bin .lss (.t 73) (.c (.int .i64 0))⟩] none)
                    (.cond (.t 74)
                     (.region [
                      ⟨some 75, none, .mv (.t 10)⟩,
                      ⟨some 9, none, .mv (.t 75)⟩] none)
                     .skip)))
                  .skip))))))
            (.region [
             ⟨some 26, none, .mv (.t 10)⟩,
             ⟨some 27, none, .bin .add (.t 26) (.c (.int .i64 1))⟩,
             ⟨some 10, none, .mv (.t 27)⟩] none))))))
       (.seq
        (.region [
         ⟨some 76, none, .mv (.t 2)⟩,
         ⟨some 77, none, .call 39 [(.t 76), (.c (.int .i64 2))]⟩,
         ⟨some 12, none, .mv (.t 77)⟩] none)
        (.seq
         (.seq
          (.region [
           ⟨some 78, none, .mv (.t 12)⟩,
           ⟨some 79, none, .bin .geq (.t 78) (.c (.int .i64 0))⟩] none)
          (.cond (.t 79)
           (.seq
            (.region [
             ⟨some 80, none, .mv (.t 2)⟩,
             ⟨some 81, none, .mv (.t 12)⟩,
             ⟨some 82, none, .iaddr (.slc 16) (.t 80) (.t 81)⟩,
             ⟨some 83, none, .faddr 1 (.t 82)⟩,
             ⟨some 84, none, .faddr 3 (.t 83)⟩,
             ⟨some 85, none, .load true 5 (.t 84)⟩,
             ⟨some 86, none, .mv (.t 2)⟩,
             ⟨some 87, none, .mv (.t 12)⟩,
             ⟨some 88, none, .iaddr (.slc 16) (.t 86) (.t 87)⟩,
             ⟨some 89, none, .faddr 1 (.t 88)⟩,
             ⟨some 90, none, .faddr 8 (.t 89)⟩,
             ⟨some 91, none, .load true 2 (.t 90)⟩,
             ⟨some 92, none, .build [.int .i64 0, .int .i64 0, .int .i64 0, .int .u32 0, .str ByteArray.empty, .str ByteArray.empty, .int .u32 0, .slc 0 true []] [(0, 1, (.c (.int .i64 2))), (1, 5, (.t 85)), (6, 2, (.t 91))]⟩,
             ⟨none, none, .store 8 (.t 6) (.t 92)⟩] (some (12, [0, 0, 3, 7, 15, 31, 0, 0, 192, 448, 960, 1984, 4095, 8191], 0)))
            .ret)
           .skip))
         (.seq
          (.seq
           (.region [
            ⟨some 93, none, .mv (.t 7)⟩,
            ⟨some 94, none, .un .not (.t 93)⟩,
            ⟨some 95, none, .mv (.t 94)⟩,
            ⟨some 96, some (95, true), .mv (.t 8)⟩,
            ⟨some 97, some (95, true), .mv (.t 0)⟩,
            ⟨some 98, some (95, true), .call 40 [(.t 97)]⟩,
            ⟨some 99, some (95, true), .bin .geq (.t 96) (.t 98)⟩,
            ⟨some 100, none, .pick (.t 95) (.t 99) (.c (.bool false))⟩] none)
           (.cond (.t 100)
            (.seq
             (.region [
              ⟨some 101, none, .mv (.t 2)⟩,
              ⟨some 102, none, .mv (.t 9)⟩,
              ⟨some 103, none, .iaddr (.slc 16) (.t 101) (.t 102)⟩,
              ⟨some 104, none, .faddr 1 (.t 103)⟩,
              ⟨some 105, none, .faddr 3 (.t 104)⟩,
              ⟨some 106, none, .load true 5 (.t 105)⟩,
              ⟨some 107, none, .mv (.t 2)⟩,
              ⟨some 108, none, .mv (.t 9)⟩,
              ⟨some 109, none, .iaddr (.slc 16) (.t 107) (.t 108)⟩,
              ⟨some 110, none, .faddr 1 (.t 109)⟩,
              ⟨some 111, none, .faddr 8 (.t 110)⟩,
              ⟨some 112, none, .load true 2 (.t 111)⟩,
              ⟨some 113, none, .build [.int .i64 0, .int .i64 0, .int .i64 0, .int .u32 0, .str ByteArray.empty, .str ByteArray.empty, .int .u32 0, .slc 0 true []] [(0, 1, (.c (.int .i64 2))), (1, 5, (.t 106)), (6, 2, (.t 112))]⟩,
              ⟨none, none, .store 8 (.t 6) (.t 113)⟩] (some (12, [0, 0, 3, 7, 15, 31, 0, 0, 192, 448, 960, 1984, 4095, 8191], 0)))
             .ret)
            .skip))
          (.seq
           (.region [
            ⟨some 114, none, .mv (.t 2)⟩,
            ⟨some 115, none, .call 39 [(.t 114), (.c (.int .i64 1))]⟩,
            ⟨some 13, none, .mv (.t 115)⟩] none)
           (.seq
            (.seq
             (.region [
              ⟨some 116, none, .mv (.t 13)⟩,
              ⟨some 117, none, .bin .geq (.t 116) (.c (.int .i64 0))⟩] none)
             (.cond (.t 117)
              (.seq
               (.region [
                ⟨some 118, none, .mv (.t 2)⟩,
                ⟨some 119, none, .mv (.t 13)⟩,
                ⟨some 120, none, .iaddr (.slc 16) (.t 118) (.t 119)⟩,
                ⟨some 121, none, .faddr 1 (.t 120)⟩,
                ⟨some 122, none, .faddr 3 (.t 121)⟩,
                ⟨some 123, none, .load true 5 (.t 122)⟩,
                ⟨some 124, none, .build [.int .i64 0, .int .i64 0, .int .i64 0, .int .u32 0, .str ByteArray.empty, .str ByteArray.empty, .int .u32 0, .slc 0 true []] [(0, 1, (.c (.int .i64 3))), (1, 5, (.t 123))]⟩,
                ⟨none, none, .store 8 (.t 6) (.t 124)⟩] none)
               .ret)
              .skip))
            (.seq
             (.region [
              ⟨some 125, none, .build [.int .i64 0, .int .i64 0, .int .i64 0, .int .u32 0, .str ByteArray.empty, .str ByteArray.empty, .int .u32 0, .slc 0 true []] [(0, 1, (.c (.int .i64 2)))]⟩,
              ⟨none, none, .store 8 (.t 6) (.t 125)⟩] none)
             .ret)))))))))))))⟩
theorem nf12_ok : compF Try.prog 12 = some nf12 := by kernel_rfl

/-- comitia/comitiaref09.Same -/
def nf13 : NF := ⟨38, [.tmp 4],
 (.seq
 (.region [
  ⟨some 2, none, .box (.t 0)⟩,
  ⟨some 3, none, .box (.t 1)⟩,
  ⟨some 4, none, .mv (.c (.bool false))⟩] none)
 (.seq
  (.seq
   (.region [
    ⟨some 6, none, .faddr 0 (.t 2)⟩,
    ⟨some 7, none, .load false 1 (.t 6)⟩,
    ⟨some 8, none, .faddr 0 (.t 3)⟩,
    ⟨some 9, none, .load false 1 (.t 8)⟩,
    ⟨some 10, none, .bin .neq (.t 7) (.t 9)⟩,
    ⟨some 11, none, .mv (.t 10)⟩,
    ⟨some 12, some (11, false), .faddr 1 (.t 2)⟩,
    ⟨some 13, some (11, false), .load false 1 (.t 12)⟩,
    ⟨some 14, some (11, false), .len .slc (.t 13)⟩,
    ⟨some 15, some (11, false), .faddr 1 (.t 3)⟩,
    ⟨some 16, some (11, false), .load false 1 (.t 15)⟩,
    ⟨some 17, some (11, false), .len .slc (.t 16)⟩,
    ⟨some 18, some (11, false), .bin .neq (.t 14) (.t 17)⟩,
    ⟨some 19, none, .pick (.t 11) (.c (.bool true)) (.t 18)⟩] none)
   (.cond (.t 19)
    (.seq
     (.region [
      ⟨some 4, none, .mv (.c (.bool false))⟩] none)
     .ret)
    .skip))
  (.seq
   (.seq
    (.region [
     ⟨some 5, none, .mv (.c (.int .i64 0))⟩] none)
    (.block 0 (.loop (.seq
       (.seq
        (.region [
         ⟨some 20, none, .mv (.t 5)⟩,
         ⟨some 21, none, .faddr 1 (.t 2)⟩,
         ⟨some 22, none, .load false 1 (.t 21)⟩,
         ⟨some 23, none, .len .slc (.t 22)⟩,
         ⟨some 24, none, .bin .lss (.t 20) (.t 23)⟩] none)
        (.cond (.t 24)
         .skip
         (.exit 0)))
       (.seq
        (.block 1 (.seq
          (.region [
           ⟨some 27, none, .faddr 1 (.t 2)⟩,
           ⟨some 28, none, .load false 1 (.t 27)⟩,
           ⟨some 29, none, .mv (.t 5)⟩,
           ⟨some 30, none, .iaddr (.slc 2) (.t 28) (.t 29)⟩,
           ⟨some 31, none, .load true 2 (.t 30)⟩,
           ⟨some 32, none, .faddr 1 (.t 3)⟩,
           ⟨some 33, none, .load false 1 (.t 32)⟩,
           ⟨some 34, none, .mv (.t 5)⟩,
           ⟨some 35, none, .iaddr (.slc 2) (.t 33) (.t 34)⟩,
           ⟨some 36, none, .load true 2 (.t 35)⟩,
           ⟨some 37, none, .eq (.key ⟨true, [.int, .int]⟩) true (.t 31) (.t 36)⟩] (some (10, [0, 1, 0, 7, 15, 0, 32, 0, 224, 480, 1023], 0)))
          (.cond (.t 37)
           (.seq
            (.region [
             ⟨some 4, none, .mv (.c (.bool false))⟩] none)
            .ret)
           .skip)))
        (.region [
         ⟨some 25, none, .mv (.t 5)⟩,
         ⟨some 26, none, .bin .add (.t 25) (.c (.int .i64 1))⟩,
         ⟨some 5, none, .mv (.t 26)⟩] none))))))
   (.seq
    (.region [
     ⟨some 4, none, .mv (.c (.bool true))⟩] none)
    .ret))))⟩
theorem nf13_ok : compF Try.prog 13 = some nf13 := by kernel_rfl

/-- comitia/comitialaw13.refAttr -/
def nf14 : NF := ⟨9, [.cell 2 true 2],
 (.seq
 (.region [
  ⟨some 1, none, .box (.t 0)⟩,
  ⟨some 2, none, .new [.int .u32 0, .slc 0 true []]⟩] none)
 (.seq
  (.region [
   ⟨some 3, none, .faddr 0 (.t 1)⟩,
   ⟨some 4, none, .load false 1 (.t 3)⟩,
   ⟨some 5, none, .faddr 1 (.t 1)⟩,
   ⟨some 6, none, .load false 1 (.t 5)⟩,
   ⟨some 7, none, .call 41 [(.t 6)]⟩,
   ⟨some 8, none, .build [.int .u32 0, .slc 0 true []] [(0, 1, (.t 4)), (1, 1, (.t 7))]⟩,
   ⟨none, none, .store 2 (.t 2) (.t 8)⟩] (some (5, [0, 1, 0, 4, 12, 31, 63], 512)))
  .ret))⟩
theorem nf14_ok : compF Try.prog 14 = some nf14 := by kernel_rfl

/-- comitia/choose.Enough -/
def nf15 : NF := ⟨18, [.tmp 4],
 (.seq
 (.region [
  ⟨some 4, none, .mv (.c (.bool false))⟩] none)
 (.seq
  (.region [
   ⟨some 6, none, .mv (.t 0)⟩,
   ⟨some 7, none, .call 35 [(.t 6)]⟩,
   ⟨some 5, none, .mv (.t 7)⟩] none)
  (.seq
   (.region [
    ⟨some 8, none, .mv (.t 5)⟩,
    ⟨some 9, none, .bin .gtr (.t 8) (.c (.int .i64 0))⟩,
    ⟨some 10, none, .mv (.t 9)⟩,
    ⟨some 11, some (10, true), .mv (.t 0)⟩,
    ⟨some 12, some (10, true), .mv (.t 1)⟩,
    ⟨some 13, some (10, true), .call 34 [(.t 11), (.t 12)]⟩,
    ⟨some 14, some (10, true), .len .slc (.t 13)⟩,
    ⟨some 15, some (10, true), .mv (.t 5)⟩,
    ⟨some 16, some (10, true), .bin .gtr (.t 14) (.t 15)⟩,
    ⟨some 17, none, .pick (.t 10) (.t 16) (.c (.bool false))⟩,
    ⟨some 4, none, .mv (.t 17)⟩] none)
   .ret)))⟩
theorem nf15_ok : compF Try.prog 15 = some nf15 := by kernel_rfl

/-- comitia/comitiaref13.Enough -/
def nf16 : NF := ⟨18, [.tmp 4],
 (.seq
 (.region [
  ⟨some 4, none, .mv (.c (.bool false))⟩] none)
 (.seq
  (.region [
   ⟨some 6, none, .mv (.t 0)⟩,
   ⟨some 7, none, .call 40 [(.t 6)]⟩,
   ⟨some 5, none, .mv (.t 7)⟩] none)
  (.seq
   (.region [
    ⟨some 8, none, .mv (.t 5)⟩,
    ⟨some 9, none, .bin .gtr (.t 8) (.c (.int .i64 0))⟩,
    ⟨some 10, none, .mv (.t 9)⟩,
    ⟨some 11, some (10, true), .mv (.t 0)⟩,
    ⟨some 12, some (10, true), .mv (.t 1)⟩,
    ⟨some 13, some (10, true), .call 38 [(.t 11), (.t 12)]⟩,
    ⟨some 14, some (10, true), .len .slc (.t 13)⟩,
    ⟨some 15, some (10, true), .mv (.t 5)⟩,
    ⟨some 16, some (10, true), .bin .gtr (.t 14) (.t 15)⟩,
    ⟨some 17, none, .pick (.t 10) (.t 16) (.c (.bool false))⟩,
    ⟨some 4, none, .mv (.t 17)⟩] none)
   .ret)))⟩
theorem nf16_ok : compF Try.prog 16 = some nf16 := by kernel_rfl

/-- comitia/comitialaw13.refCmd -/
def nf17 : NF := ⟨14, [.cell 2 true 5],
 (.seq
 (.region [
  ⟨some 1, none, .box (.t 0)⟩,
  ⟨some 2, none, .new [.int .i64 0, .int .i64 0, .int .u32 0, .str ByteArray.empty, .str ByteArray.empty]⟩] none)
 (.seq
  (.region [
   ⟨some 3, none, .faddr 0 (.t 1)⟩,
   ⟨some 4, none, .load false 1 (.t 3)⟩,
   ⟨some 5, none, .faddr 1 (.t 1)⟩,
   ⟨some 6, none, .load false 1 (.t 5)⟩,
   ⟨some 7, none, .faddr 2 (.t 1)⟩,
   ⟨some 8, none, .load false 1 (.t 7)⟩,
   ⟨some 9, none, .faddr 3 (.t 1)⟩,
   ⟨some 10, none, .load false 1 (.t 9)⟩,
   ⟨some 11, none, .faddr 4 (.t 1)⟩,
   ⟨some 12, none, .load false 1 (.t 11)⟩,
   ⟨some 13, none, .build [.int .i64 0, .int .i64 0, .int .u32 0, .str ByteArray.empty, .str ByteArray.empty] [(0, 1, (.t 4)), (1, 1, (.t 6)), (2, 1, (.t 8)), (3, 1, (.t 10)), (4, 1, (.t 12))]⟩,
   ⟨none, none, .store 5 (.t 2) (.t 13)⟩] none)
  .ret))⟩
theorem nf17_ok : compF Try.prog 17 = some nf17 := by kernel_rfl

/-- comitia/inst.New -/
def nf18 : NF := ⟨5, [.cell 2 true 15],
 (.seq
 (.region [
  ⟨some 1, none, .box (.t 0)⟩,
  ⟨some 2, none, .new [.int .i64 0, .int .i64 0, .int .i64 0, .int .i64 0, .int .i64 0, .int .u32 0, .str ByteArray.empty, .str ByteArray.empty, .int .u32 0, .slc 0 true [], .int .u32 0, .int .i64 0, .int .u32 0, .int .i64 0, .bool false]⟩] none)
 (.seq
  (.region [
   ⟨some 3, none, .load true 2 (.t 1)⟩,
   ⟨some 4, none, .build [.int .i64 0, .int .i64 0, .int .i64 0, .int .i64 0, .int .i64 0, .int .u32 0, .str ByteArray.empty, .str ByteArray.empty, .int .u32 0, .slc 0 true [], .int .u32 0, .int .i64 0, .int .u32 0, .int .i64 0, .bool false] [(0, 2, (.t 3))]⟩,
   ⟨none, none, .store 15 (.t 2) (.t 4)⟩] none)
  .ret))⟩
theorem nf18_ok : compF Try.prog 18 = some nf18 := by kernel_rfl

/-- comitia/comitialaw13.one -/
def nf19 : NF := ⟨18, [.cell 4 true 5, .cell 5 true 2],
 (.seq
 (.region [
  ⟨some 2, none, .box (.t 0)⟩,
  ⟨some 3, none, .box (.t 1)⟩,
  ⟨some 4, none, .new [.int .i64 0, .int .i64 0, .int .u32 0, .str ByteArray.empty, .str ByteArray.empty]⟩,
  ⟨some 5, none, .new [.int .u32 0, .slc 0 true []]⟩] none)
 (.seq
  (.region [
   ⟨some 7, none, .faddr 5 (.t 2)⟩,
   ⟨none, none, .store 1 (.t 7) (.c (.bool true))⟩] none)
  (.seq
   (.region [
    ⟨some 8, none, .faddr 2 (.t 3)⟩,
    ⟨none, none, .store 1 (.t 8) (.c (.bool true))⟩] none)
   (.seq
    (.region [
     ⟨some 9, none, .load true 6 (.t 2)⟩,
     ⟨some 10, none, .call 42 [(.t 9)]⟩,
     ⟨some 6, none, .new [.int .i64 0, .int .i64 0, .int .u32 0, .str ByteArray.empty, .str ByteArray.empty]⟩,
     ⟨none, none, .store 5 (.t 6) (.t 10)⟩] none)
    (.seq
     (.seq
      (.region [
       ⟨some 11, none, .faddr 0 (.t 6)⟩,
       ⟨some 12, none, .load false 1 (.t 11)⟩,
       ⟨some 13, none, .bin .eql (.t 12) (.c (.int .i64 0))⟩] none)
      (.cond (.t 13)
       (.region [
        ⟨some 14, none, .build [.int .i64 0, .int .i64 0, .int .u32 0, .str ByteArray.empty, .str ByteArray.empty] [(0, 1, (.c (.int .i64 2))), (1, 1, (.c (.int .i64 1))), (2, 1, (.c (.int .u32 1))), (3, 1, (.c (.str ⟨#[107]⟩)))]⟩,
        ⟨none, none, .store 5 (.t 6) (.t 14)⟩] none)
       .skip))
     (.seq
      (.region [
       ⟨some 15, none, .load true 5 (.t 6)⟩,
       ⟨some 16, none, .load true 4 (.t 3)⟩,
       ⟨some 17, none, .call 21 [(.t 16)]⟩,
       ⟨none, none, .store 5 (.t 4) (.t 15)⟩,
       ⟨none, none, .store 2 (.t 5) (.t 17)⟩] (some (3, [0, 0, 2, 7, 15], 32)))
      .ret))))))⟩
theorem nf19_ok : compF Try.prog 19 = some nf19 := by kernel_rfl

/-- (comitia/inst.Inst).PreAccept -/
def nf20 : NF := ⟨35, [.cell 10 true 15, .tmp 11],
 (.seq
 (.region [
  ⟨some 5, none, .box (.t 0)⟩,
  ⟨some 6, none, .box (.t 1)⟩,
  ⟨some 7, none, .box (.t 2)⟩,
  ⟨some 8, none, .box (.t 3)⟩,
  ⟨some 10, none, .new [.int .i64 0, .int .i64 0, .int .i64 0, .int .i64 0, .int .i64 0, .int .u32 0, .str ByteArray.empty, .str ByteArray.empty, .int .u32 0, .slc 0 true [], .int .u32 0, .int .i64 0, .int .u32 0, .int .i64 0, .bool false]⟩,
  ⟨some 11, none, .mv (.c (.bool false))⟩] none)
 (.seq
  (.seq
   (.region [
    ⟨some 12, none, .load true 15 (.t 5)⟩,
    ⟨some 13, none, .load true 2 (.t 6)⟩,
    ⟨some 14, none, .call 43 [(.t 12), (.t 13)]⟩,
    ⟨some 15, none, .un .not (.t 14)⟩,
    ⟨some 16, none, .mv (.t 15)⟩,
    ⟨some 17, some (16, false), .faddr 2 (.t 5)⟩,
    ⟨some 18, some (16, false), .load false 1 (.t 17)⟩,
    ⟨some 19, some (16, false), .bin .neq (.t 18) (.c (.int .i64 0))⟩,
    ⟨some 20, some (16, false), .mv (.t 19)⟩,
    ⟨some 21, some (20, true), .load true 2 (.t 6)⟩,
    ⟨some 22, some (20, true), .faddr 12 (.t 5)⟩,
    ⟨some 23, some (20, true), .load true 2 (.t 22)⟩,
    ⟨some 24, some (20, true), .call 44 [(.t 21), (.t 23)]⟩,
    ⟨some 25, some (20, true), .bin .leq (.t 24) (.c (.int .i64 0))⟩,
    ⟨some 26, some (16, false), .pick (.t 20) (.t 25) (.c (.bool false))⟩,
    ⟨some 27, none, .pick (.t 16) (.c (.bool true)) (.t 26)⟩] none)
   (.cond (.t 27)
    (.seq
     (.region [
      ⟨some 28, none, .load true 15 (.t 5)⟩,
      ⟨none, none, .store 15 (.t 10) (.t 28)⟩,
      ⟨some 11, none, .mv (.c (.bool false))⟩] none)
     .ret)
    .skip))
  (.seq
   (.region [
    ⟨some 29, none, .load true 15 (.t 5)⟩,
    ⟨some 30, none, .load true 2 (.t 6)⟩,
    ⟨some 31, none, .load true 5 (.t 7)⟩,
    ⟨some 32, none, .load true 2 (.t 8)⟩,
    ⟨some 33, none, .mv (.t 4)⟩,
    ⟨some 34, none, .call 45 [(.t 29), (.c (.int .i64 1)), (.t 30), (.t 31), (.t 32), (.t 33)]⟩,
    ⟨none, none, .store 15 (.t 10) (.t 34)⟩,
    ⟨some 11, none, .mv (.c (.bool true))⟩] none)
   .ret)))⟩
theorem nf20_ok : compF Try.prog 20 = some nf20 := by kernel_rfl

/-- (comitia/comitialaw13.Go).attr -/
def nf21 : NF := ⟨27, [.cell 2 true 2],
 (.seq
 (.region [
  ⟨some 1, none, .box (.t 0)⟩,
  ⟨some 2, none, .new [.int .u32 0, .slc 0 true []]⟩] none)
 (.seq
  (.seq
   (.region [
    ⟨some 3, none, .faddr 2 (.t 1)⟩,
    ⟨some 4, none, .load false 1 (.t 3)⟩,
    ⟨some 5, none, .un .not (.t 4)⟩] none)
   (.cond (.t 5)
    (.seq
     (.region [
      ⟨some 6, none, .faddr 0 (.t 1)⟩,
      ⟨some 7, none, .faddr 0 (.t 6)⟩,
      ⟨some 8, none, .load false 1 (.t 7)⟩,
      ⟨some 9, none, .faddr 0 (.t 1)⟩,
      ⟨some 10, none, .faddr 1 (.t 9)⟩,
      ⟨some 11, none, .load false 1 (.t 10)⟩,
      ⟨some 12, none, .faddr 0 (.t 1)⟩,
      ⟨some 13, none, .faddr 1 (.t 12)⟩,
      ⟨some 14, none, .load false 1 (.t 13)⟩,
      ⟨some 15, none, .len .slc (.t 14)⟩,
      ⟨some 16, none, .mm false [(.t 15), (.c (.int .i64 8))]⟩,
      ⟨some 17, none, .slice (.slc 2) (.t 11) none (some (.t 16)) none⟩,
      ⟨some 18, none, .build [.int .u32 0, .slc 0 true []] [(0, 1, (.t 8)), (1, 1, (.t 17))]⟩,
      ⟨none, none, .store 2 (.t 2) (.t 18)⟩] (some (12, [0, 1, 3, 0, 8, 24, 0, 64, 192, 448, 960, 2040, 4095, 8191], 0)))
     .ret)
    .skip))
  (.seq
   (.region [
    ⟨some 19, none, .faddr 0 (.t 1)⟩,
    ⟨some 20, none, .faddr 0 (.t 19)⟩,
    ⟨some 21, none, .load false 1 (.t 20)⟩,
    ⟨some 22, none, .bin .rem (.t 21) (.c (.int .u32 5))⟩,
    ⟨some 23, none, .faddr 3 (.t 1)⟩,
    ⟨some 24, none, .load false 1 (.t 23)⟩,
    ⟨some 25, none, .call 46 [(.t 24)]⟩,
    ⟨some 26, none, .build [.int .u32 0, .slc 0 true []] [(0, 1, (.t 22)), (1, 1, (.t 25))]⟩,
    ⟨none, none, .store 2 (.t 2) (.t 26)⟩] (some (7, [0, 1, 3, 7, 0, 16, 48, 127, 255], 8192)))
   .ret)))⟩
theorem nf21_ok : compF Try.prog 21 = some nf21 := by kernel_rfl

/-- comitia/attr.Same -/
def nf22 : NF := ⟨38, [.tmp 4],
 (.seq
 (.region [
  ⟨some 2, none, .box (.t 0)⟩,
  ⟨some 3, none, .box (.t 1)⟩,
  ⟨some 4, none, .mv (.c (.bool false))⟩] none)
 (.scope (.seq
   (.region [
    ⟨some 5, none, .mv (.c (.int .i64 0))⟩] none)
   (.seq
    (.seq
     (.region [
      ⟨some 6, none, .faddr 0 (.t 2)⟩,
      ⟨some 7, none, .load false 1 (.t 6)⟩,
      ⟨some 8, none, .faddr 0 (.t 3)⟩,
      ⟨some 9, none, .load false 1 (.t 8)⟩,
      ⟨some 10, none, .bin .neq (.t 7) (.t 9)⟩,
      ⟨some 11, none, .mv (.t 10)⟩,
      ⟨some 12, some (11, false), .faddr 1 (.t 2)⟩,
      ⟨some 13, some (11, false), .load false 1 (.t 12)⟩,
      ⟨some 14, some (11, false), .len .slc (.t 13)⟩,
      ⟨some 15, some (11, false), .faddr 1 (.t 3)⟩,
      ⟨some 16, some (11, false), .load false 1 (.t 15)⟩,
      ⟨some 17, some (11, false), .len .slc (.t 16)⟩,
      ⟨some 18, some (11, false), .bin .neq (.t 14) (.t 17)⟩,
      ⟨some 19, none, .pick (.t 11) (.c (.bool true)) (.t 18)⟩] none)
     (.cond (.t 19)
      (.goto 0)
      .skip))
    (.seq
     (.label 1)
     (.seq
      (.seq
       (.region [
        ⟨some 20, none, .mv (.t 5)⟩,
        ⟨some 21, none, .faddr 1 (.t 2)⟩,
        ⟨some 22, none, .load false 1 (.t 21)⟩,
        ⟨some 23, none, .len .slc (.t 22)⟩,
        ⟨some 24, none, .bin .eql (.t 20) (.t 23)⟩] none)
       (.cond (.t 24)
        (.seq
         (.region [
          ⟨some 4, none, .mv (.c (.bool true))⟩] none)
         .ret)
        .skip))
      (.seq
       (.seq
        (.region [
         ⟨some 25, none, .faddr 1 (.t 2)⟩,
         ⟨some 26, none, .load false 1 (.t 25)⟩,
         ⟨some 27, none, .mv (.t 5)⟩,
         ⟨some 28, none, .iaddr (.slc 2) (.t 26) (.t 27)⟩,
         ⟨some 29, none, .load true 2 (.t 28)⟩,
         ⟨some 30, none, .faddr 1 (.t 3)⟩,
         ⟨some 31, none, .load false 1 (.t 30)⟩,
         ⟨some 32, none, .mv (.t 5)⟩,
         ⟨some 33, none, .iaddr (.slc 2) (.t 31) (.t 32)⟩,
         ⟨some 34, none, .load true 2 (.t 33)⟩,
         ⟨some 35, none, .eq (.key ⟨true, [.int, .int]⟩) false (.t 29) (.t 34)⟩] (some (10, [0, 1, 0, 7, 15, 0, 32, 0, 224, 480, 1023], 0)))
        (.cond (.t 35)
         (.seq
          (.region [
           ⟨some 36, none, .mv (.t 5)⟩,
           ⟨some 37, none, .bin .add (.t 36) (.c (.int .i64 1))⟩,
           ⟨some 5, none, .mv (.t 37)⟩] none)
          (.goto 1))
         .skip))
       (.seq
        (.label 0)
        (.seq
         (.region [
          ⟨some 4, none, .mv (.c (.bool false))⟩] none)
         .ret)))))))))⟩
theorem nf22_ok : compF Try.prog 22 = some nf22 := by kernel_rfl

/-- (comitia/inst.Inst).Accept -/
def nf23 : NF := ⟨32, [.cell 8 true 15, .tmp 9],
 (.seq
 (.region [
  ⟨some 4, none, .box (.t 0)⟩,
  ⟨some 5, none, .box (.t 1)⟩,
  ⟨some 6, none, .box (.t 2)⟩,
  ⟨some 7, none, .box (.t 3)⟩,
  ⟨some 8, none, .new [.int .i64 0, .int .i64 0, .int .i64 0, .int .i64 0, .int .i64 0, .int .u32 0, .str ByteArray.empty, .str ByteArray.empty, .int .u32 0, .slc 0 true [], .int .u32 0, .int .i64 0, .int .u32 0, .int .i64 0, .bool false]⟩,
  ⟨some 9, none, .mv (.c (.bool false))⟩] none)
 (.seq
  (.seq
   (.region [
    ⟨some 10, none, .load true 15 (.t 4)⟩,
    ⟨some 11, none, .load true 2 (.t 5)⟩,
    ⟨some 12, none, .call 43 [(.t 10), (.t 11)]⟩,
    ⟨some 13, none, .un .not (.t 12)⟩,
    ⟨some 14, none, .mv (.t 13)⟩,
    ⟨some 15, some (14, false), .faddr 2 (.t 4)⟩,
    ⟨some 16, some (14, false), .load false 1 (.t 15)⟩,
    ⟨some 17, some (14, false), .bin .eql (.t 16) (.c (.int .i64 2))⟩,
    ⟨some 18, some (14, false), .mv (.t 17)⟩,
    ⟨some 19, some (18, true), .load true 2 (.t 5)⟩,
    ⟨some 20, some (18, true), .faddr 12 (.t 4)⟩,
    ⟨some 21, some (18, true), .load true 2 (.t 20)⟩,
    ⟨some 22, some (18, true), .call 44 [(.t 19), (.t 21)]⟩,
    ⟨some 23, some (18, true), .bin .leq (.t 22) (.c (.int .i64 0))⟩,
    ⟨some 24, some (14, false), .pick (.t 18) (.t 23) (.c (.bool false))⟩,
    ⟨some 25, none, .pick (.t 14) (.c (.bool true)) (.t 24)⟩] none)
   (.cond (.t 25)
    (.seq
     (.region [
      ⟨some 26, none, .load true 15 (.t 4)⟩,
      ⟨none, none, .store 15 (.t 8) (.t 26)⟩,
      ⟨some 9, none, .mv (.c (.bool false))⟩] none)
     .ret)
    .skip))
  (.seq
   (.region [
    ⟨some 27, none, .load true 15 (.t 4)⟩,
    ⟨some 28, none, .load true 2 (.t 5)⟩,
    ⟨some 29, none, .load true 5 (.t 6)⟩,
    ⟨some 30, none, .load true 2 (.t 7)⟩,
    ⟨some 31, none, .call 45 [(.t 27), (.c (.int .i64 2)), (.t 28), (.t 29), (.t 30), (.c (.bool false))]⟩,
    ⟨none, none, .store 15 (.t 8) (.t 31)⟩,
    ⟨some 9, none, .mv (.c (.bool true))⟩] none)
   .ret)))⟩
theorem nf23_ok : compF Try.prog 23 = some nf23 := by kernel_rfl

/-- (comitia/inst.Inst).Commit -/
def nf24 : NF := ⟨18, [.cell 6 true 15, .tmp 7],
 (.seq
 (.region [
  ⟨some 3, none, .box (.t 0)⟩,
  ⟨some 4, none, .box (.t 1)⟩,
  ⟨some 5, none, .box (.t 2)⟩,
  ⟨some 6, none, .new [.int .i64 0, .int .i64 0, .int .i64 0, .int .i64 0, .int .i64 0, .int .u32 0, .str ByteArray.empty, .str ByteArray.empty, .int .u32 0, .slc 0 true [], .int .u32 0, .int .i64 0, .int .u32 0, .int .i64 0, .bool false]⟩,
  ⟨some 7, none, .mv (.c (.bool false))⟩] none)
 (.seq
  (.seq
   (.region [
    ⟨some 8, none, .faddr 2 (.t 3)⟩,
    ⟨some 9, none, .load false 1 (.t 8)⟩,
    ⟨some 10, none, .bin .geq (.t 9) (.c (.int .i64 3))⟩] none)
   (.cond (.t 10)
    (.seq
     (.region [
      ⟨some 11, none, .load true 15 (.t 3)⟩,
      ⟨none, none, .store 15 (.t 6) (.t 11)⟩,
      ⟨some 7, none, .mv (.c (.bool false))⟩] none)
     .ret)
    .skip))
  (.seq
   (.region [
    ⟨some 12, none, .load true 5 (.t 4)⟩,
    ⟨some 13, none, .load true 2 (.t 5)⟩,
    ⟨some 14, none, .faddr 2 (.t 3)⟩,
    ⟨none, none, .store 1 (.t 14) (.c (.int .i64 3))⟩,
    ⟨some 15, none, .faddr 3 (.t 3)⟩,
    ⟨none, none, .store 5 (.t 15) (.t 12)⟩,
    ⟨some 16, none, .faddr 8 (.t 3)⟩,
    ⟨none, none, .store 2 (.t 16) (.t 13)⟩] (some (6, [0, 0, 0, 4, 13, 29, 63, 127], 0)))
   (.seq
    (.region [
     ⟨some 17, none, .load true 15 (.t 3)⟩,
     ⟨none, none, .store 15 (.t 6) (.t 17)⟩,
     ⟨some 7, none, .mv (.c (.bool true))⟩] none)
    .ret))))⟩
theorem nf24_ok : compF Try.prog 24 = some nf24 := by kernel_rfl

/-- (comitia/inst.Inst).Execute -/
def nf25 : NF := ⟨10, [.cell 2 true 15, .tmp 3],
 (.seq
 (.region [
  ⟨some 1, none, .box (.t 0)⟩,
  ⟨some 2, none, .new [.int .i64 0, .int .i64 0, .int .i64 0, .int .i64 0, .int .i64 0, .int .u32 0, .str ByteArray.empty, .str ByteArray.empty, .int .u32 0, .slc 0 true [], .int .u32 0, .int .i64 0, .int .u32 0, .int .i64 0, .bool false]⟩,
  ⟨some 3, none, .mv (.c (.bool false))⟩] none)
 (.seq
  (.seq
   (.region [
    ⟨some 4, none, .faddr 2 (.t 1)⟩,
    ⟨some 5, none, .load false 1 (.t 4)⟩,
    ⟨some 6, none, .bin .neq (.t 5) (.c (.int .i64 3))⟩] none)
   (.cond (.t 6)
    (.seq
     (.region [
      ⟨some 7, none, .load true 15 (.t 1)⟩,
      ⟨none, none, .store 15 (.t 2) (.t 7)⟩,
      ⟨some 3, none, .mv (.c (.bool false))⟩] none)
     .ret)
    .skip))
  (.seq
   (.region [
    ⟨some 8, none, .faddr 2 (.t 1)⟩,
    ⟨none, none, .store 1 (.t 8) (.c (.int .i64 4))⟩] none)
   (.seq
    (.region [
     ⟨some 9, none, .load true 15 (.t 1)⟩,
     ⟨none, none, .store 15 (.t 2) (.t 9)⟩,
     ⟨some 3, none, .mv (.c (.bool true))⟩] none)
    .ret))))⟩
theorem nf25_ok : compF Try.prog 25 = some nf25 := by kernel_rfl

/-- (comitia/comitialaw13.Some).some -/
def nf26 : NF := ⟨87, [.cell 2 true 15],
 (.seq
 (.region [
  ⟨some 1, none, .box (.t 0)⟩,
  ⟨some 2, none, .new [.int .i64 0, .int .i64 0, .int .i64 0, .int .i64 0, .int .i64 0, .int .u32 0, .str ByteArray.empty, .str ByteArray.empty, .int .u32 0, .slc 0 true [], .int .u32 0, .int .i64 0, .int .u32 0, .int .i64 0, .bool false]⟩] none)
 (.seq
  (.seq
   (.region [
    ⟨some 7, none, .faddr 15 (.t 1)⟩,
    ⟨some 8, none, .load false 1 (.t 7)⟩,
    ⟨some 9, none, .un .not (.t 8)⟩] none)
   (.cond (.t 9)
    (.seq
     (.region [
      ⟨some 10, none, .faddr 0 (.t 1)⟩,
      ⟨some 11, none, .load true 15 (.t 10)⟩,
      ⟨some 3, none, .new [.int .i64 0, .int .i64 0, .int .i64 0, .int .i64 0, .int .i64 0, .int .u32 0, .str ByteArray.empty, .str ByteArray.empty, .int .u32 0, .slc 0 true [], .int .u32 0, .int .i64 0, .int .u32 0, .int .i64 0, .bool false]⟩,
      ⟨none, none, .store 15 (.t 3) (.t 11)⟩] none)
     (.seq
      (.region [
       ⟨some 12, none, .faddr 8 (.t 3)⟩,
       ⟨some 13, none, .faddr 1 (.t 12)⟩,
       ⟨some 14, none, .load false 1 (.t 13)⟩,
       ⟨some 15, none, .faddr 8 (.t 3)⟩,
       ⟨some 16, none, .faddr 1 (.t 15)⟩,
       ⟨some 17, none, .load false 1 (.t 16)⟩,
       ⟨some 18, none, .len .slc (.t 17)⟩,
       ⟨some 19, none, .mm false [(.t 18), (.c (.int .i64 8))]⟩,
       ⟨some 20, none, .slice (.slc 2) (.t 14) none (some (.t 19)) none⟩,
       ⟨some 21, none, .faddr 8 (.t 3)⟩,
       ⟨some 22, none, .faddr 1 (.t 21)⟩,
       ⟨none, none, .store 1 (.t 22) (.t 20)⟩] none)
      (.seq
       (.region [
        ⟨some 23, none, .load true 15 (.t 3)⟩,
        ⟨none, none, .store 15 (.t 2) (.t 23)⟩] none)
       .ret)))
    .skip))
  (.seq
   (.region [
    ⟨some 24, none, .faddr 0 (.t 1)⟩,
    ⟨some 25, none, .faddr 0 (.t 24)⟩,
    ⟨some 26, none, .faddr 0 (.t 25)⟩,
    ⟨some 27, none, .load false 1 (.t 26)⟩,
    ⟨some 28, none, .i2i .u64 (.t 27)⟩,
    ⟨some 29, none, .bin .rem (.t 28) (.c (.int .u64 3))⟩,
    ⟨some 30, none, .i2i .i64 (.t 29)⟩,
    ⟨some 31, none, .bin .add (.c (.int .i64 1)) (.t 30)⟩,
    ⟨some 32, none, .faddr 0 (.t 1)⟩,
    ⟨some 33, none, .faddr 0 (.t 32)⟩,
    ⟨some 34, none, .faddr 1 (.t 33)⟩,
    ⟨some 35, none, .load false 1 (.t 34)⟩,
    ⟨some 36, none, .i2i .u64 (.t 35)⟩,
    ⟨some 37, none, .bin .rem (.t 36) (.c (.int .u64 4))⟩,
    ⟨some 38, none, .i2i .i64 (.t 37)⟩,
    ⟨some 39, none, .bin .add (.c (.int .i64 1)) (.t 38)⟩,
    ⟨some 40, none, .build [.int .i64 0, .int .i64 0] [(0, 1, (.t 31)), (1, 1, (.t 39))]⟩,
    ⟨some 41, none, .faddr 28 (.t 1)⟩,
    ⟨some 42, none, .load false 1 (.t 41)⟩,
    ⟨some 43, none, .bin .rem (.t 42) (.c (.int .u8 5))⟩,
    ⟨some 44, none, .i2i .i64 (.t 43)⟩,
    ⟨some 45, none, .build [.int .i64 0, .int .i64 0, .int .i64 0, .int .i64 0, .int .i64 0, .int .u32 0, .str ByteArray.empty, .str ByteArray.empty, .int .u32 0, .slc 0 true [], .int .u32 0, .int .i64 0, .int .u32 0, .int .i64 0, .bool false] [(0, 2, (.t 40)), (2, 1, (.t 44))]⟩,
    ⟨some 4, none, .new [.int .i64 0, .int .i64 0, .int .i64 0, .int .i64 0, .int .i64 0, .int .u32 0, .str ByteArray.empty, .str ByteArray.empty, .int .u32 0, .slc 0 true [], .int .u32 0, .int .i64 0, .int .u32 0, .int .i64 0, .bool false]⟩,
    ⟨none, none, .store 15 (.t 4) (.t 45)⟩] none)
   (.seq
    (.region [
     ⟨some 46, none, .faddr 26 (.t 1)⟩,
     ⟨some 47, none, .iaddr (.arr 2 1) (.t 46) (.c (.int .i64 0))⟩,
     ⟨some 48, none, .load false 1 (.t 47)⟩,
     ⟨some 49, none, .call 47 [(.t 48)]⟩,
     ⟨some 5, none, .new [.int .u32 0, .int .i64 0]⟩,
     ⟨none, none, .store 2 (.t 5) (.t 49)⟩] none)
    (.seq
     (.region [
      ⟨some 50, none, .faddr 26 (.t 1)⟩,
      ⟨some 51, none, .iaddr (.arr 2 1) (.t 50) (.c (.int .i64 1))⟩,
      ⟨some 52, none, .load false 1 (.t 51)⟩,
      ⟨some 53, none, .call 47 [(.t 52)]⟩,
      ⟨some 6, none, .new [.int .u32 0, .int .i64 0]⟩,
      ⟨none, none, .store 2 (.t 6) (.t 53)⟩] none)
     (.seq
      (.region [
       ⟨some 54, none, .load true 2 (.t 5)⟩,
       ⟨some 55, none, .faddr 10 (.t 4)⟩,
       ⟨none, none, .store 2 (.t 55) (.t 54)⟩] none)
      (.seq
       (.seq
        (.region [
         ⟨some 56, none, .faddr 2 (.t 4)⟩,
         ⟨some 57, none, .load false 1 (.t 56)⟩,
         ⟨some 58, none, .bin .eql (.t 57) (.c (.int .i64 0))⟩] none)
        (.cond (.t 58)
         (.seq
          (.region [
           ⟨some 59, none, .load true 15 (.t 4)⟩,
           ⟨none, none, .store 15 (.t 2) (.t 59)⟩] none)
          .ret)
         .skip))
       (.seq
        (.region [
         ⟨some 60, none, .faddr 16 (.t 1)⟩,
         ⟨some 61, none, .faddr 5 (.t 60)⟩,
         ⟨none, none, .store 1 (.t 61) (.c (.bool true))⟩] none)
        (.seq
         (.region [
          ⟨some 62, none, .faddr 22 (.t 1)⟩,
          ⟨some 63, none, .faddr 2 (.t 62)⟩,
          ⟨none, none, .store 1 (.t 63) (.c (.bool true))⟩] none)
         (.seq
          (.region [
           ⟨some 64, none, .faddr 16 (.t 1)⟩,
           ⟨some 65, none, .load true 6 (.t 64)⟩,
           ⟨some 66, none, .call 42 [(.t 65)]⟩,
           ⟨some 67, none, .faddr 3 (.t 4)⟩,
           ⟨none, none, .store 5 (.t 67) (.t 66)⟩] none)
          (.seq
           (.region [
            ⟨some 68, none, .faddr 22 (.t 1)⟩,
            ⟨some 69, none, .load true 4 (.t 68)⟩,
            ⟨some 70, none, .call 21 [(.t 69)]⟩,
            ⟨some 71, none, .faddr 8 (.t 4)⟩,
            ⟨none, none, .store 2 (.t 71) (.t 70)⟩] none)
           (.seq
            (.region [
             ⟨some 72, none, .load true 2 (.t 6)⟩,
             ⟨some 73, none, .faddr 12 (.t 4)⟩,
             ⟨none, none, .store 2 (.t 73) (.t 72)⟩] none)
            (.seq
             (.seq
              (.region [
               ⟨some 74, none, .load true 2 (.t 5)⟩,
               ⟨some 75, none, .load true 2 (.t 6)⟩,
               ⟨some 76, none, .call 44 [(.t 74), (.t 75)]⟩,
               ⟨some 77, none, .bin .lss (.t 76) (.c (.int .i64 0))⟩] none)
              (.cond (.t 77)
               (.seq
                (.region [
                 ⟨some 78, none, .load true 2 (.t 6)⟩,
                 ⟨some 79, none, .faddr 10 (.t 4)⟩,
                 ⟨none, none, .store 2 (.t 79) (.t 78)⟩] none)
                (.region [
                 ⟨some 80, none, .load true 2 (.t 5)⟩,
                 ⟨some 81, none, .faddr 12 (.t 4)⟩,
                 ⟨none, none, .store 2 (.t 81) (.t 80)⟩] none))
               .skip))
             (.seq
              (.region [
               ⟨some 82, none, .faddr 0 (.t 1)⟩,
               ⟨some 83, none, .faddr 14 (.t 82)⟩,
               ⟨some 84, none, .load false 1 (.t 83)⟩,
               ⟨some 85, none, .faddr 14 (.t 4)⟩,
               ⟨none, none, .store 1 (.t 85) (.t 84)⟩] none)
              (.seq
               (.region [
                ⟨some 86, none, .load true 15 (.t 4)⟩,
                ⟨none, none, .store 15 (.t 2) (.t 86)⟩] none)
               .ret)))))))))))))))⟩
theorem nf26_ok : compF Try.prog 26 = some nf26 := by kernel_rfl

/-- comitia/comitialaw13.refInst -/
def nf27 : NF := ⟨27, [.cell 2 true 15],
 (.seq
 (.region [
  ⟨some 1, none, .box (.t 0)⟩,
  ⟨some 2, none, .new [.int .i64 0, .int .i64 0, .int .i64 0, .int .i64 0, .int .i64 0, .int .u32 0, .str ByteArray.empty, .str ByteArray.empty, .int .u32 0, .slc 0 true [], .int .u32 0, .int .i64 0, .int .u32 0, .int .i64 0, .bool false]⟩] none)
 (.seq
  (.region [
   ⟨some 3, none, .faddr 0 (.t 1)⟩,
   ⟨some 4, none, .faddr 0 (.t 3)⟩,
   ⟨some 5, none, .load false 1 (.t 4)⟩,
   ⟨some 6, none, .faddr 0 (.t 1)⟩,
   ⟨some 7, none, .faddr 1 (.t 6)⟩,
   ⟨some 8, none, .load false 1 (.t 7)⟩,
   ⟨some 9, none, .build [.int .i64 0, .int .i64 0] [(0, 1, (.t 5)), (1, 1, (.t 8))]⟩,
   ⟨some 10, none, .faddr 2 (.t 1)⟩,
   ⟨some 11, none, .load false 1 (.t 10)⟩,
   ⟨some 12, none, .faddr 3 (.t 1)⟩,
   ⟨some 13, none, .load true 5 (.t 12)⟩,
   ⟨some 14, none, .call 17 [(.t 13)]⟩,
   ⟨some 15, none, .faddr 8 (.t 1)⟩,
   ⟨some 16, none, .load true 2 (.t 15)⟩,
   ⟨some 17, none, .call 14 [(.t 16)]⟩,
   ⟨some 18, none, .faddr 10 (.t 1)⟩,
   ⟨some 19, none, .load true 2 (.t 18)⟩,
   ⟨some 20, none, .call 48 [(.t 19)]⟩,
   ⟨some 21, none, .faddr 12 (.t 1)⟩,
   ⟨some 22, none, .load true 2 (.t 21)⟩,
   ⟨some 23, none, .call 48 [(.t 22)]⟩,
   ⟨some 24, none, .faddr 14 (.t 1)⟩,
   ⟨some 25, none, .load false 1 (.t 24)⟩,
   ⟨some 26, none, .build [.int .i64 0, .int .i64 0, .int .i64 0, .int .i64 0, .int .i64 0, .int .u32 0, .str ByteArray.empty, .str ByteArray.empty, .int .u32 0, .slc 0 true [], .int .u32 0, .int .i64 0, .int .u32 0, .int .i64 0, .bool false] [(0, 2, (.t 9)), (2, 1, (.t 11)), (3, 5, (.t 14)), (8, 2, (.t 17)), (10, 2, (.t 20)), (12, 2, (.t 23)), (14, 1, (.t 25))]⟩,
   ⟨none, none, .store 15 (.t 2) (.t 26)⟩] (some (23, [0, 1, 3, 0, 8, 24, 63, 0, 128, 0, 512, 1536, 0, 4096, 15872, 0, 32768, 130560, 0, 262144, 1048064, 0, 2097152, 8388607, 16777215], 2233928253440)))
  .ret))⟩
theorem nf27_ok : compF Try.prog 27 = some nf27 := by kernel_rfl

/-- comitia/choose.Choose$1 -/
def nf28 : NF := ⟨9, [.tmp 5],
 (.seq
 (.region [
  ⟨some 3, none, .box (.t 0)⟩,
  ⟨some 4, none, .box (.t 1)⟩,
  ⟨some 5, none, .mv (.c (.slc 0 true []))⟩] none)
 (.seq
  (.region [
   ⟨some 6, none, .load false 1 (.t 2)⟩,
   ⟨some 7, none, .mkfn 30 [(.t 3), (.t 4)]⟩,
   ⟨some 8, none, .call 29 [(.t 6), (.t 7)]⟩,
   ⟨some 5, none, .mv (.t 8)⟩] none)
  .ret))⟩
theorem nf28_ok : compF Try.prog 28 = some nf28 := by kernel_rfl

/-- comitia/choose.some -/
def nf29 : NF := ⟨24, [.tmp 4],
 (.seq
 (.region [
  ⟨some 4, none, .mv (.c (.slc 0 true []))⟩] none)
 (.seq
  (.region [
   ⟨some 5, none, .mv (.c (.slc 0 true []))⟩] none)
  (.seq
   (.seq
    (.region [
     ⟨some 8, none, .mv (.t 0)⟩,
     ⟨some 9, none, .len .slc (.t 8)⟩,
     ⟨some 10, none, .mv (.c (.int .i64 0))⟩] none)
    (.block 0 (.loop (.seq
       (.region [
        ⟨some 11, none, .bin .lss (.t 10) (.t 9)⟩] none)
       (.seq
        (.cond (.t 11)
         .skip
         (.exit 0))
        (.seq
         (.block 1 (.seq
           (.region [
            ⟨some 12, none, .iaddr (.slc 16) (.t 8) (.t 10)⟩,
            ⟨some 13, none, .load true 16 (.t 12)⟩,
            ⟨some 7, none, .new [.int .i64 0, .int .i64 0, .int .i64 0, .int .i64 0, .int .i64 0, .int .i64 0, .int .u32 0, .str ByteArray.empty, .str ByteArray.empty, .int .u32 0, .slc 0 true [], .int .u32 0, .int .i64 0, .int .u32 0, .int .i64 0, .bool false]⟩,
            ⟨none, none, .store 16 (.t 7) (.t 13)⟩] none)
           (.seq
            (.region [
             ⟨some 14, none, .mv (.t 1)⟩,
             ⟨some 15, none, .load true 16 (.t 7)⟩,
             ⟨some 16, none, .dyn (.t 14) [(.t 15)]⟩] none)
            (.cond (.t 16)
             (.region [
              ⟨some 17, none, .mv (.t 5)⟩,
              ⟨some 18, none, .faddr 1 (.t 7)⟩,
              ⟨some 19, none, .load true 15 (.t 18)⟩,
              ⟨some 20, none, .bslc 15 1 [.int .i64 0, .int .i64 0, .int .i64 0, .int .i64 0, .int .i64 0, .int .u32 0, .str ByteArray.empty, .str ByteArray.empty, .int .u32 0, .slc 0 true [], .int .u32 0, .int .i64 0, .int .u32 0, .int .i64 0, .bool false] [(0, 15, (.t 19))]⟩,
              ⟨some 21, none, .app 15 152 (.t 17) (.t 20)⟩,
              ⟨some 5, none, .mv (.t 21)⟩] none)
             .skip))))
         (.region [
          ⟨some 22, none, .bin .add (.t 10) (.c (.int .i64 1))⟩,
          ⟨some 10, none, .mv (.t 22)⟩] none)))))))
   (.seq
    (.region [
     ⟨some 23, none, .mv (.t 5)⟩,
     ⟨some 4, none, .mv (.t 23)⟩] none)
    .ret))))⟩
theorem nf29_ok : compF Try.prog 29 = some nf29 := by kernel_rfl

/-- comitia/choose.Choose$1$1 -/
def nf30 : NF := ⟨17, [.tmp 4],
 (.seq
 (.region [
  ⟨some 3, none, .box (.t 0)⟩,
  ⟨some 4, none, .mv (.c (.bool false))⟩] none)
 (.seq
  (.region [
   ⟨some 5, none, .faddr 1 (.t 3)⟩,
   ⟨some 6, none, .faddr 2 (.t 5)⟩,
   ⟨some 7, none, .load false 1 (.t 6)⟩,
   ⟨some 8, none, .load false 1 (.t 1)⟩,
   ⟨some 9, none, .bin .geq (.t 7) (.t 8)⟩,
   ⟨some 10, none, .mv (.t 9)⟩,
   ⟨some 11, some (10, true), .faddr 1 (.t 3)⟩,
   ⟨some 12, some (10, true), .faddr 2 (.t 11)⟩,
   ⟨some 13, some (10, true), .load false 1 (.t 12)⟩,
   ⟨some 14, some (10, true), .load false 1 (.t 2)⟩,
   ⟨some 15, some (10, true), .bin .leq (.t 13) (.t 14)⟩,
   ⟨some 16, none, .pick (.t 10) (.t 15) (.c (.bool false))⟩,
   ⟨some 4, none, .mv (.t 16)⟩] none)
  .ret))⟩
theorem nf30_ok : compF Try.prog 30 = some nf30 := by kernel_rfl

/-- comitia/choose.Choose$2 -/
def nf31 : NF := ⟨18, [.tmp 2],
 (.seq
 (.region [
  ⟨some 1, none, .box (.t 0)⟩,
  ⟨some 2, none, .mv (.c (.bool false))⟩] none)
 (.seq
  (.region [
   ⟨some 3, none, .faddr 1 (.t 1)⟩,
   ⟨some 4, none, .faddr 2 (.t 3)⟩,
   ⟨some 5, none, .load false 1 (.t 4)⟩,
   ⟨some 6, none, .bin .eql (.t 5) (.c (.int .i64 1))⟩,
   ⟨some 7, none, .mv (.t 6)⟩,
   ⟨some 8, some (7, true), .faddr 1 (.t 1)⟩,
   ⟨some 9, some (7, true), .faddr 12 (.t 8)⟩,
   ⟨some 10, some (7, true), .load true 2 (.t 9)⟩,
   ⟨some 11, some (7, true), .call 32 [(.t 10)]⟩,
   ⟨some 12, none, .pick (.t 7) (.t 11) (.c (.bool false))⟩,
   ⟨some 13, none, .mv (.t 12)⟩,
   ⟨some 14, some (13, true), .faddr 1 (.t 1)⟩,
   ⟨some 15, some (13, true), .faddr 14 (.t 14)⟩,
   ⟨some 16, some (13, true), .load false 1 (.t 15)⟩,
   ⟨some 17, none, .pick (.t 13) (.t 16) (.c (.bool false))⟩,
   ⟨some 2, none, .mv (.t 17)⟩] none)
  .ret))⟩
theorem nf31_ok : compF Try.prog 31 = some nf31 := by kernel_rfl

/-- (comitia/ballot.Ballot).Zero -/
def nf32 : NF := ⟨6, [.tmp 2],
 (.seq
 (.region [
  ⟨some 1, none, .box (.t 0)⟩,
  ⟨some 2, none, .mv (.c (.bool false))⟩] none)
 (.seq
  (.region [
   ⟨some 3, none, .load true 2 (.t 1)⟩,
   ⟨some 4, none, .build [.int .u32 0, .int .i64 0] []⟩,
   ⟨some 5, none, .eq (.key ⟨true, [.int, .int]⟩) false (.t 3) (.t 4)⟩,
   ⟨some 2, none, .mv (.t 5)⟩] none)
  .ret))⟩
theorem nf32_ok : compF Try.prog 32 = some nf32 := by kernel_rfl

/-- comitia/choose.Choose$3 -/
def nf33 : NF := ⟨14, [.tmp 3],
 (.seq
 (.region [
  ⟨some 2, none, .box (.t 0)⟩,
  ⟨some 3, none, .mv (.c (.bool false))⟩] none)
 (.seq
  (.region [
   ⟨some 4, none, .faddr 0 (.t 2)⟩,
   ⟨some 5, none, .load false 1 (.t 4)⟩,
   ⟨some 6, none, .load false 1 (.t 1)⟩,
   ⟨some 7, none, .bin .eql (.t 5) (.t 6)⟩,
   ⟨some 8, none, .mv (.t 7)⟩,
   ⟨some 9, some (8, true), .faddr 1 (.t 2)⟩,
   ⟨some 10, some (8, true), .faddr 2 (.t 9)⟩,
   ⟨some 11, some (8, true), .load false 1 (.t 10)⟩,
   ⟨some 12, some (8, true), .bin .neq (.t 11) (.c (.int .i64 0))⟩,
   ⟨some 13, none, .pick (.t 8) (.t 12) (.c (.bool false))⟩,
   ⟨some 3, none, .mv (.t 13)⟩] none)
  .ret))⟩
theorem nf33_ok : compF Try.prog 33 = some nf33 := by kernel_rfl

/-- comitia/choose.counted -/
def nf34 : NF := ⟨37, [.tmp 4],
 (.seq
 (.region [
  ⟨some 4, none, .mv (.c (.slc 0 true []))⟩] none)
 (.seq
  (.region [
   ⟨some 5, none, .mv (.c (.slc 0 true []))⟩] none)
  (.seq
   (.seq
    (.region [
     ⟨some 9, none, .mv (.t 1)⟩,
     ⟨some 10, none, .len .slc (.t 9)⟩,
     ⟨some 11, none, .mv (.c (.int .i64 0))⟩] none)
    (.block 0 (.loop (.seq
       (.region [
        ⟨some 12, none, .bin .lss (.t 11) (.t 10)⟩] none)
       (.seq
        (.cond (.t 12)
         .skip
         (.exit 0))
        (.seq
         (.block 1 (.seq
           (.region [
            ⟨some 13, none, .iaddr (.slc 16) (.t 9) (.t 11)⟩,
            ⟨some 14, none, .load true 16 (.t 13)⟩,
            ⟨some 7, none, .new [.int .i64 0, .int .i64 0, .int .i64 0, .int .i64 0, .int .i64 0, .int .i64 0, .int .u32 0, .str ByteArray.empty, .str ByteArray.empty, .int .u32 0, .slc 0 true [], .int .u32 0, .int .i64 0, .int .u32 0, .int .i64 0, .bool false]⟩,
            ⟨none, none, .store 16 (.t 7) (.t 14)⟩] none)
           (.seq
            (.region [
             ⟨some 15, none, .mv (.t 5)⟩,
             ⟨some 16, none, .mkfn 50 [(.t 7)]⟩,
             ⟨some 17, none, .call 49 [(.t 15), (.t 16)]⟩,
             ⟨some 8, none, .mv (.t 17)⟩] none)
            (.seq
             (.region [
              ⟨some 18, none, .mv (.t 8)⟩,
              ⟨some 19, none, .un .not (.t 18)⟩,
              ⟨some 20, none, .mv (.t 19)⟩,
              ⟨some 21, some (20, true), .faddr 0 (.t 7)⟩,
              ⟨some 22, some (20, true), .load false 1 (.t 21)⟩,
              ⟨some 23, some (20, true), .bin .geq (.t 22) (.c (.int .i64 1))⟩,
              ⟨some 24, none, .pick (.t 20) (.t 23) (.c (.bool false))⟩,
              ⟨some 25, none, .mv (.t 24)⟩,
              ⟨some 26, some (25, true), .faddr 0 (.t 7)⟩,
              ⟨some 27, some (25, true), .load false 1 (.t 26)⟩,
              ⟨some 28, some (25, true), .mv (.t 0)⟩,
              ⟨some 29, some (25, true), .bin .leq (.t 27) (.t 28)⟩,
              ⟨some 30, none, .pick (.t 25) (.t 29) (.c (.bool false))⟩] none)
             (.cond (.t 30)
              (.region [
               ⟨some 31, none, .mv (.t 5)⟩,
               ⟨some 32, none, .load true 16 (.t 7)⟩,
               ⟨some 33, none, .bslc 16 1 [.int .i64 0, .int .i64 0, .int .i64 0, .int .i64 0, .int .i64 0, .int .i64 0, .int .u32 0, .str ByteArray.empty, .str ByteArray.empty, .int .u32 0, .slc 0 true [], .int .u32 0, .int .i64 0, .int .u32 0, .int .i64 0, .bool false] [(0, 16, (.t 32))]⟩,
               ⟨some 34, none, .app 16 160 (.t 31) (.t 33)⟩,
               ⟨some 5, none, .mv (.t 34)⟩] none)
              .skip)))))
         (.region [
          ⟨some 35, none, .bin .add (.t 11) (.c (.int .i64 1))⟩,
          ⟨some 11, none, .mv (.t 35)⟩] none)))))))
   (.seq
    (.region [
     ⟨some 36, none, .mv (.t 5)⟩,
     ⟨some 4, none, .mv (.t 36)⟩] none)
    .ret))))⟩
theorem nf34_ok : compF Try.prog 34 = some nf34 := by kernel_rfl

/-- comitia/tally.Faults -/
def nf35 : NF := ⟨16, [.tmp 2],
 (.seq
 (.region [
  ⟨some 2, none, .mv (.c (.int .i64 0))⟩] none)
 (.seq
  (.seq
   (.region [
    ⟨some 3, none, .mv (.t 0)⟩,
    ⟨some 4, none, .bin .lss (.t 3) (.c (.int .i64 3))⟩,
    ⟨some 5, none, .mv (.t 4)⟩,
    ⟨some 6, some (5, false), .mv (.t 0)⟩,
    ⟨some 7, some (5, false), .bin .gtr (.t 6) (.c (.int .i64 7))⟩,
    ⟨some 8, none, .pick (.t 5) (.c (.bool true)) (.t 7)⟩,
    ⟨some 9, none, .mv (.t 8)⟩,
    ⟨some 10, some (9, false), .mv (.t 0)⟩,
    ⟨some 11, some (9, false), .bin .rem (.t 10) (.c (.int .i64 2))⟩,
    ⟨some 12, some (9, false), .bin .eql (.t 11) (.c (.int .i64 0))⟩,
    ⟨some 13, none, .pick (.t 9) (.c (.bool true)) (.t 12)⟩] none)
   (.cond (.t 13)
    (.seq
     (.region [
      ⟨some 2, none, .mv (.c (.int .i64 0))⟩] none)
     .ret)
    .skip))
  (.seq
   (.region [
    ⟨some 14, none, .mv (.t 0)⟩,
    ⟨some 15, none, .bin .quo (.t 14) (.c (.int .i64 2))⟩,
    ⟨some 2, none, .mv (.t 15)⟩] none)
   .ret)))⟩
theorem nf35_ok : compF Try.prog 35 = some nf35 := by kernel_rfl

/-- comitia/choose.by -/
def nf36 : NF := ⟨5, [.cell 2 true 15],
 (.seq
 (.region [
  ⟨some 2, none, .new [.int .i64 0, .int .i64 0, .int .i64 0, .int .i64 0, .int .i64 0, .int .u32 0, .str ByteArray.empty, .str ByteArray.empty, .int .u32 0, .slc 0 true [], .int .u32 0, .int .i64 0, .int .u32 0, .int .i64 0, .bool false]⟩] none)
 (.seq
  (.region [
   ⟨some 3, none, .mv (.t 0)⟩,
   ⟨some 4, none, .call 51 [(.t 3), (.c (.fn 52 []))]⟩,
   ⟨none, none, .store 15 (.t 2) (.t 4)⟩] none)
  .ret))⟩
theorem nf36_ok : compF Try.prog 36 = some nf36 := by kernel_rfl

/-- comitia/choose.of -/
def nf37 : NF := ⟨13, [.cell 4 true 8],
 (.seq
 (.region [
  ⟨some 3, none, .box (.t 1)⟩,
  ⟨some 4, none, .new [.int .i64 0, .int .i64 0, .int .i64 0, .int .u32 0, .str ByteArray.empty, .str ByteArray.empty, .int .u32 0, .slc 0 true []]⟩] none)
 (.seq
  (.region [
   ⟨some 5, none, .mv (.t 0)⟩,
   ⟨some 6, none, .faddr 3 (.t 3)⟩,
   ⟨some 7, none, .load true 5 (.t 6)⟩,
   ⟨some 8, none, .faddr 8 (.t 3)⟩,
   ⟨some 9, none, .load true 2 (.t 8)⟩,
   ⟨some 10, none, .build [.int .u32 0, .slc 0 true []] []⟩,
   ⟨some 11, none, .call 53 [(.t 9), (.t 10)]⟩,
   ⟨some 12, none, .build [.int .i64 0, .int .i64 0, .int .i64 0, .int .u32 0, .str ByteArray.empty, .str ByteArray.empty, .int .u32 0, .slc 0 true []] [(0, 1, (.t 5)), (1, 5, (.t 7)), (6, 2, (.t 11))]⟩,
   ⟨none, none, .store 8 (.t 4) (.t 12)⟩] (some (7, [0, 0, 2, 0, 8, 0, 56, 127, 255], 8192)))
  .ret))⟩
theorem nf37_ok : compF Try.prog 37 = some nf37 := by kernel_rfl

/-- comitia/comitiaref13.counted -/
def nf38 : NF := ⟨59, [.tmp 4],
 (.seq
 (.region [
  ⟨some 4, none, .mv (.c (.slc 0 true []))⟩] none)
 (.seq
  (.region [
   ⟨some 5, none, .mv (.c (.slc 0 true []))⟩] none)
  (.seq
   (.seq
    (.region [
     ⟨some 6, none, .mv (.c (.int .i64 0))⟩] none)
    (.block 0 (.loop (.seq
       (.seq
        (.region [
         ⟨some 9, none, .mv (.t 6)⟩,
         ⟨some 10, none, .mv (.t 1)⟩,
         ⟨some 11, none, .len .slc (.t 10)⟩,
         ⟨some 12, none, .bin .lss (.t 9) (.t 11)⟩] none)
        (.cond (.t 12)
         .skip
         (.exit 0)))
       (.seq
        (.block 1 (.seq
          (.region [
           ⟨some 15, none, .mv (.t 1)⟩,
           ⟨some 16, none, .mv (.t 6)⟩,
           ⟨some 17, none, .iaddr (.slc 16) (.t 15) (.t 16)⟩,
           ⟨some 18, none, .faddr 0 (.t 17)⟩,
           ⟨some 19, none, .load false 1 (.t 18)⟩,
           ⟨some 20, none, .bin .geq (.t 19) (.c (.int .i64 1))⟩,
           ⟨some 21, none, .mv (.t 20)⟩,
           ⟨some 22, some (21, true), .mv (.t 1)⟩,
           ⟨some 23, some (21, true), .mv (.t 6)⟩,
           ⟨some 24, some (21, true), .iaddr (.slc 16) (.t 22) (.t 23)⟩,
           ⟨some 25, some (21, true), .faddr 0 (.t 24)⟩,
           ⟨some 26, some (21, true), .load false 1 (.t 25)⟩,
           ⟨some 27, some (21, true), .mv (.t 0)⟩,
           ⟨some 28, some (21, true), .bin .leq (.t 26) (.t 27)⟩,
           ⟨some 29, none, .pick (.t 21) (.t 28) (.c (.bool false))⟩,
           ⟨some 7, none, .mv (.t 29)⟩] none)
          (.seq
           (.seq
            (.region [
             ⟨some 8, none, .mv (.c (.int .i64 0))⟩] none)
            (.block 2 (.loop (.seq
               (.seq
                (.region [
                 ⟨some 30, none, .mv (.t 8)⟩,
                 ⟨some 31, none, .mv (.t 5)⟩,
                 ⟨some 32, none, .len .slc (.t 31)⟩,
                 ⟨some 33, none, .bin .lss (.t 30) (.t 32)⟩] none)
                (.cond (.t 33)
                 .skip
                 (.exit 2)))
               (.seq
                (.block 3 (.region [
                  ⟨some 36, none, .mv (.t 7)⟩,
                  ⟨some 37, none, .mv (.t 36)⟩,
                  ⟨some 38, some (37, true), .mv (.t 5)⟩,
                  ⟨some 39, some (37, true), .mv (.t 8)⟩,
                  ⟨some 40, some (37, true), .iaddr (.slc 16) (.t 38) (.t 39)⟩,
                  ⟨some 41, some (37, true), .faddr 0 (.t 40)⟩,
                  ⟨some 42, some (37, true), .load false 1 (.t 41)⟩,
                  ⟨some 43, some (37, true), .mv (.t 1)⟩,
                  ⟨some 44, some (37, true), .mv (.t 6)⟩,
                  ⟨some 45, some (37, true), .iaddr (.slc 16) (.t 43) (.t 44)⟩,
                  ⟨some 46, some (37, true), .faddr 0 (.t 45)⟩,
                  ⟨some 47, some (37, true), .load false 1 (.t 46)⟩,
                  ⟨some 48, some (37, true), .bin .neq (.t 42) (.t 47)⟩,
                  ⟨some 49, none, .pick (.t 37) (.t 48) (.c (.bool false))⟩,
                  ⟨some 7, none, .mv (.t 49)⟩] (some (12, [0, 1, 3, 3, 15, 31, 63, 3, 3, 387, 899, 1923, 4095, 8191, 16383], 0))))
                (.region [
                 ⟨some 34, none, .mv (.t 8)⟩,
                 ⟨some 35, none, .bin .add (.t 34) (.c (.int .i64 1))⟩,
                 ⟨some 8, none, .mv (.t 35)⟩] none))))))
           (.seq
            (.region [
             ⟨some 50, none, .mv (.t 7)⟩] none)
            (.cond (.t 50)
             (.region [
              ⟨some 51, none, .mv (.t 5)⟩,
              ⟨some 52, none, .mv (.t 1)⟩,
              ⟨some 53, none, .mv (.t 6)⟩,
              ⟨some 54, none, .iaddr (.slc 16) (.t 52) (.t 53)⟩,
              ⟨some 55, none, .load true 16 (.t 54)⟩,
              ⟨some 56, none, .bslc 16 1 [.int .i64 0, .int .i64 0, .int .i64 0, .int .i64 0, .int .i64 0, .int .i64 0, .int .u32 0, .str ByteArray.empty, .str ByteArray.empty, .int .u32 0, .slc 0 true [], .int .u32 0, .int .i64 0, .int .u32 0, .int .i64 0, .bool false] [(0, 16, (.t 55))]⟩,
              ⟨some 57, none, .app 16 160 (.t 51) (.t 56)⟩,
              ⟨some 5, none, .mv (.t 57)⟩] none)
             .skip)))))
        (.region [
         ⟨some 13, none, .mv (.t 6)⟩,
         ⟨some 14, none, .bin .add (.t 13) (.c (.int .i64 1))⟩,
         ⟨some 6, none, .mv (.t 14)⟩] none))))))
   (.seq
    (.region [
     ⟨some 58, none, .mv (.t 5)⟩,
     ⟨some 4, none, .mv (.t 58)⟩] none)
    .ret))))⟩
theorem nf38_ok : compF Try.prog 38 = some nf38 := by kernel_rfl

/-- comitia/comitiaref13.best -/
def nf39 : NF := ⟨43, [.tmp 4],
 (.seq
 (.region [
  ⟨some 4, none, .mv (.c (.int .i64 0))⟩] none)
 (.seq
  (.region [
   ⟨some 5, none, .mv (.c (.int .i64 (-1)))⟩] none)
  (.seq
   (.seq
    (.region [
     ⟨some 6, none, .mv (.c (.int .i64 0))⟩] none)
    (.block 0 (.loop (.seq
       (.seq
        (.region [
         ⟨some 7, none, .mv (.t 6)⟩,
         ⟨some 8, none, .mv (.t 0)⟩,
         ⟨some 9, none, .len .slc (.t 8)⟩,
         ⟨some 10, none, .bin .lss (.t 7) (.t 9)⟩] none)
        (.cond (.t 10)
         .skip
         (.exit 0)))
       (.seq
        (.block 1 (.seq
          (.region [
           ⟨some 13, none, .mv (.t 0)⟩,
           ⟨some 14, none, .mv (.t 6)⟩,
           ⟨some 15, none, .iaddr (.slc 16) (.t 13) (.t 14)⟩,
           ⟨some 16, none, .faddr 1 (.t 15)⟩,
           ⟨some 17, none, .faddr 2 (.t 16)⟩,
           ⟨some 18, none, .load false 1 (.t 17)⟩,
           ⟨some 19, none, .mv (.t 1)⟩,
           ⟨some 20, none, .bin .eql (.t 18) (.t 19)⟩,
           ⟨some 21, none, .mv (.t 20)⟩,
           ⟨some 22, some (21, true), .mv (.t 5)⟩,
           ⟨some 23, some (21, true), .bin .lss (.t 22) (.c (.int .i64 0))⟩,
           ⟨some 24, some (21, true), .mv (.t 23)⟩,
           ⟨some 25, some (24, false), .mv (.t 0)⟩,
           ⟨some 26, some (24, false), .mv (.t 6)⟩,
           ⟨some 27, some (24, false), .iaddr (.slc 16) (.t 25) (.t 26)⟩,
           ⟨some 28, some (24, false), .faddr 1 (.t 27)⟩,
           ⟨some 29, some (24, false), .faddr 12 (.t 28)⟩,
           ⟨some 30, some (24, false), .load true 2 (.t 29)⟩,
           ⟨some 31, some (24, false), .mv (.t 0)⟩,
           ⟨some 32, some (24, false), .mv (.t 5)⟩,
           ⟨some 33, some (24, false), .iaddr (.slc 16) (.t 31) (.t 32)⟩,
           ⟨some 34, some (24, false), .faddr 1 (.t 33)⟩,
           ⟨some 35, some (24, false), .faddr 12 (.t 34)⟩,
           ⟨some 36, some (24, false), .load true 2 (.t 35)⟩,
           ⟨some 37, some (24, false), .call 54 [(.t 30), (.t 36)]⟩,
           ⟨some 38, some (24, false), .bin .gtr (.t 37) (.c (.int .i64 0))⟩,
           ⟨some 39, some (21, true), .pick (.t 24) (.c (.bool true)) (.t 38)⟩,
           ⟨some 40, none, .pick (.t 21) (.t 39) (.c (.bool false))⟩] (some (24, [0, 0, 3, 7, 15, 31, 0, 127, 255, 511, 1023, 2047, 4095, 4095, 16383, 32767, 65535, 131071, 4095, 4095, 790527, 1839103, 3936255, 8130559, 16777215, 33554431, 67108863, 134217727], 0)))
          (.cond (.t 40)
           (.region [
            ⟨some 41, none, .mv (.t 6)⟩,
            ⟨some 5, none, .mv (.t 41)⟩] none)
           .skip)))
        (.region [
         ⟨some 11, none, .mv (.t 6)⟩,
         ⟨some 12, none, .bin .add (.t 11) (.c (.int .i64 1))⟩,
         ⟨some 6, none, .mv (.t 12)⟩] none))))))
   (.seq
    (.region [
     ⟨some 42, none, .mv (.t 5)⟩,
     ⟨some 4, none, .mv (.t 42)⟩] none)
    .ret))))⟩
theorem nf39_ok : compF Try.prog 39 = some nf39 := by kernel_rfl

/-- comitia/comitiaref12.Faults -/
def nf40 : NF := ⟨16, [.tmp 2],
 (.seq
 (.region [
  ⟨some 2, none, .mv (.c (.int .i64 0))⟩] none)
 (.seq
  (.seq
   (.region [
    ⟨some 3, none, .mv (.t 0)⟩,
    ⟨some 4, none, .bin .neq (.t 3) (.c (.int .i64 3))⟩,
    ⟨some 5, none, .mv (.t 4)⟩,
    ⟨some 6, some (5, true), .mv (.t 0)⟩,
    ⟨some 7, some (5, true), .bin .neq (.t 6) (.c (.int .i64 5))⟩,
    ⟨some 8, none, .pick (.t 5) (.t 7) (.c (.bool false))⟩,
    ⟨some 9, none, .mv (.t 8)⟩,
    ⟨some 10, some (9, true), .mv (.t 0)⟩,
    ⟨some 11, some (9, true), .bin .neq (.t 10) (.c (.int .i64 7))⟩,
    ⟨some 12, none, .pick (.t 9) (.t 11) (.c (.bool false))⟩] none)
   (.cond (.t 12)
    (.seq
     (.region [
      ⟨some 2, none, .mv (.c (.int .i64 0))⟩] none)
     .ret)
    .skip))
  (.seq
   (.region [
    ⟨some 13, none, .mv (.t 0)⟩,
    ⟨some 14, none, .bin .sub (.t 13) (.c (.int .i64 1))⟩,
    ⟨some 15, none, .bin .quo (.t 14) (.c (.int .i64 2))⟩,
    ⟨some 2, none, .mv (.t 15)⟩] none)
   .ret)))⟩
theorem nf40_ok : compF Try.prog 40 = some nf40 := by kernel_rfl

/-- comitia/comitialaw13.refSet -/
def nf41 : NF := ⟨26, [.tmp 2],
 (.seq
 (.region [
  ⟨some 2, none, .mv (.c (.slc 0 true []))⟩] none)
 (.seq
  (.region [
   ⟨some 3, none, .mv (.c (.slc 0 true []))⟩] none)
  (.seq
   (.seq
    (.region [
     ⟨some 4, none, .mv (.c (.int .i64 0))⟩] none)
    (.block 0 (.loop (.seq
       (.seq
        (.region [
         ⟨some 5, none, .mv (.t 4)⟩,
         ⟨some 6, none, .mv (.t 0)⟩,
         ⟨some 7, none, .len .slc (.t 6)⟩,
         ⟨some 8, none, .bin .lss (.t 5) (.t 7)⟩] none)
        (.cond (.t 8)
         .skip
         (.exit 0)))
       (.seq
        (.block 1 (.region [
          ⟨some 11, none, .mv (.t 3)⟩,
          ⟨some 12, none, .mv (.t 0)⟩,
          ⟨some 13, none, .mv (.t 4)⟩,
          ⟨some 14, none, .iaddr (.slc 2) (.t 12) (.t 13)⟩,
          ⟨some 15, none, .faddr 0 (.t 14)⟩,
          ⟨some 16, none, .load false 1 (.t 15)⟩,
          ⟨some 17, none, .mv (.t 0)⟩,
          ⟨some 18, none, .mv (.t 4)⟩,
          ⟨some 19, none, .iaddr (.slc 2) (.t 17) (.t 18)⟩,
          ⟨some 20, none, .faddr 1 (.t 19)⟩,
          ⟨some 21, none, .load false 1 (.t 20)⟩,
          ⟨some 22, none, .build [.int .i64 0, .int .i64 0] [(0, 1, (.t 16)), (1, 1, (.t 21))]⟩,
          ⟨some 23, none, .bslc 2 1 [.int .i64 0, .int .i64 0] [(0, 2, (.t 22))]⟩,
          ⟨some 24, none, .app 2 16 (.t 11) (.t 23)⟩,
          ⟨some 3, none, .mv (.t 24)⟩] (some (13, [0, 0, 0, 6, 14, 30, 0, 0, 192, 448, 960, 2046, 4094, 8191, 16383], 0))))
        (.region [
         ⟨some 9, none, .mv (.t 4)⟩,
         ⟨some 10, none, .bin .add (.t 9) (.c (.int .i64 1))⟩,
         ⟨some 4, none, .mv (.t 10)⟩] none))))))
   (.seq
    (.region [
     ⟨some 25, none, .mv (.t 3)⟩,
     ⟨some 2, none, .mv (.t 25)⟩] none)
    .ret))))⟩
theorem nf41_ok : compF Try.prog 41 = some nf41 := by kernel_rfl

/-- (comitia/comitialaw13.Wish).wish -/
def nf42 : NF := ⟨59, [.cell 2 true 5],
 (.seq
 (.region [
  ⟨some 1, none, .box (.t 0)⟩,
  ⟨some 2, none, .new [.int .i64 0, .int .i64 0, .int .u32 0, .str ByteArray.empty, .str ByteArray.empty]⟩] none)
 (.seq
  (.seq
   (.region [
    ⟨some 4, none, .faddr 5 (.t 1)⟩,
    ⟨some 5, none, .load false 1 (.t 4)⟩,
    ⟨some 6, none, .un .not (.t 5)⟩] none)
   (.cond (.t 6)
    (.seq
     (.region [
      ⟨some 7, none, .faddr 0 (.t 1)⟩,
      ⟨some 8, none, .load true 5 (.t 7)⟩,
      ⟨none, none, .store 5 (.t 2) (.t 8)⟩] none)
     .ret)
    .skip))
  (.seq
   (.region [
    ⟨some 9, none, .faddr 0 (.t 1)⟩,
    ⟨some 10, none, .faddr 0 (.t 9)⟩,
    ⟨some 11, none, .load false 1 (.t 10)⟩,
    ⟨some 12, none, .i2i .u64 (.t 11)⟩,
    ⟨some 13, none, .bin .rem (.t 12) (.c (.int .u64 5))⟩,
    ⟨some 14, none, .i2i .i64 (.t 13)⟩,
    ⟨some 15, none, .faddr 0 (.t 1)⟩,
    ⟨some 16, none, .faddr 1 (.t 15)⟩,
    ⟨some 17, none, .load false 1 (.t 16)⟩,
    ⟨some 18, none, .i2i .u64 (.t 17)⟩,
    ⟨some 19, none, .bin .rem (.t 18) (.c (.int .u64 4))⟩,
    ⟨some 20, none, .i2i .i64 (.t 19)⟩,
    ⟨some 21, none, .bin .add (.c (.int .i64 1)) (.t 20)⟩,
    ⟨some 22, none, .faddr 0 (.t 1)⟩,
    ⟨some 23, none, .faddr 2 (.t 22)⟩,
    ⟨some 24, none, .load false 1 (.t 23)⟩,
    ⟨some 25, none, .bin .rem (.t 24) (.c (.int .u32 5))⟩,
    ⟨some 26, none, .bin .add (.c (.int .u32 1)) (.t 25)⟩,
    ⟨some 27, none, .faddr 0 (.t 1)⟩,
    ⟨some 28, none, .faddr 2 (.t 27)⟩,
    ⟨some 29, none, .load false 1 (.t 28)⟩,
    ⟨some 30, none, .bin .shr (.t 29) (.c (.int .u64 8))⟩,
    ⟨some 31, none, .bin .rem (.t 30) (.c (.int .u32 3))⟩,
    ⟨some 32, none, .i2i .u8 (.t 31)⟩,
    ⟨some 33, none, .bin .add (.c (.int .u8 97)) (.t 32)⟩,
    ⟨some 34, none, .bslc 1 1 [.int .u8 0] [(0, 1, (.t 33))]⟩,
    ⟨some 35, none, .b2s (.t 34)⟩,
    ⟨some 36, none, .faddr 0 (.t 1)⟩,
    ⟨some 37, none, .faddr 4 (.t 36)⟩,
    ⟨some 38, none, .load false 1 (.t 37)⟩,
    ⟨some 39, none, .faddr 0 (.t 1)⟩,
    ⟨some 40, none, .faddr 4 (.t 39)⟩,
    ⟨some 41, none, .load false 1 (.t 40)⟩,
    ⟨some 42, none, .len .str (.t 41)⟩,
    ⟨some 43, none, .mm false [(.t 42), (.c (.int .i64 8))]⟩,
    ⟨some 44, none, .slice .str (.t 38) none (some (.t 43)) none⟩,
    ⟨some 45, none, .build [.int .i64 0, .int .i64 0, .int .u32 0, .str ByteArray.empty, .str ByteArray.empty] [(0, 1, (.t 14)), (1, 1, (.t 21)), (2, 1, (.t 26)), (3, 1, (.t 35)), (4, 1, (.t 44))]⟩,
    ⟨some 3, none, .new [.int .i64 0, .int .i64 0, .int .u32 0, .str ByteArray.empty, .str ByteArray.empty]⟩,
    ⟨none, none, .store 5 (.t 3) (.t 45)⟩] (some (38, [0, 1, 3, 7, 15, 31, 0, 64, 192, 448, 960, 1984, 4032, 0, 8192, 24576, 57344, 122880, 0, 262144, 786432, 1835008, 3932160, 8126464, 16515072, 33292288, 66846720, 0, 134217728, 402653184, 0, 1073741824, 3221225472, 7516192768, 16106127360, 34225520640, 68719476735, 0, 274877906943], 0)))
   (.seq
    (.seq
     (.region [
      ⟨some 46, none, .faddr 0 (.t 3)⟩,
      ⟨some 47, none, .load false 1 (.t 46)⟩,
      ⟨some 48, none, .bin .neq (.t 47) (.c (.int .i64 1))⟩] none)
     (.cond (.t 48)
      (.region [
       ⟨some 49, none, .faddr 4 (.t 3)⟩,
       ⟨none, none, .store 1 (.t 49) (.c (.str ByteArray.empty))⟩] none)
      .skip))
    (.seq
     (.seq
      (.region [
       ⟨some 50, none, .faddr 0 (.t 3)⟩,
       ⟨some 51, none, .load false 1 (.t 50)⟩,
       ⟨some 52, none, .bin .eql (.t 51) (.c (.int .i64 0))⟩] none)
      (.cond (.t 52)
       (.seq
        (.region [
         ⟨some 53, none, .build [.int .i64 0, .int .i64 0, .int .u32 0, .str ByteArray.empty, .str ByteArray.empty] []⟩,
         ⟨none, none, .store 5 (.t 2) (.t 53)⟩] none)
        .ret)
       .skip))
     (.seq
      (.seq
       (.region [
        ⟨some 54, none, .faddr 0 (.t 3)⟩,
        ⟨some 55, none, .load false 1 (.t 54)⟩,
        ⟨some 56, none, .bin .eql (.t 55) (.c (.int .i64 4))⟩] none)
       (.cond (.t 56)
        (.region [
         ⟨some 57, none, .faddr 0 (.t 3)⟩,
         ⟨none, none, .store 1 (.t 57) (.c (.int .i64 1))⟩] none)
        .skip))
      (.seq
       (.region [
        ⟨some 58, none, .load true 5 (.t 3)⟩,
        ⟨none, none, .store 5 (.t 2) (.t 58)⟩] none)
       .ret)))))))⟩
theorem nf42_ok : compF Try.prog 42 = some nf42 := by kernel_rfl

/-- (comitia/inst.Inst).open -/
def nf43 : NF := ⟨15, [.tmp 4],
 (.seq
 (.region [
  ⟨some 2, none, .box (.t 0)⟩,
  ⟨some 3, none, .box (.t 1)⟩,
  ⟨some 4, none, .mv (.c (.bool false))⟩] none)
 (.seq
  (.region [
   ⟨some 5, none, .faddr 2 (.t 2)⟩,
   ⟨some 6, none, .load false 1 (.t 5)⟩,
   ⟨some 7, none, .bin .lss (.t 6) (.c (.int .i64 3))⟩,
   ⟨some 8, none, .mv (.t 7)⟩,
   ⟨some 9, some (8, true), .load true 2 (.t 3)⟩,
   ⟨some 10, some (8, true), .faddr 10 (.t 2)⟩,
   ⟨some 11, some (8, true), .load true 2 (.t 10)⟩,
   ⟨some 12, some (8, true), .call 44 [(.t 9), (.t 11)]⟩,
   ⟨some 13, some (8, true), .bin .geq (.t 12) (.c (.int .i64 0))⟩,
   ⟨some 14, none, .pick (.t 8) (.t 13) (.c (.bool false))⟩,
   ⟨some 4, none, .mv (.t 14)⟩] none)
  .ret))⟩
theorem nf43_ok : compF Try.prog 43 = some nf43 := by kernel_rfl

/-- comitia/ballot.Order -/
def nf44 : NF := ⟨17, [.tmp 4],
 (.seq
 (.region [
  ⟨some 2, none, .box (.t 0)⟩,
  ⟨some 3, none, .box (.t 1)⟩,
  ⟨some 4, none, .mv (.c (.int .i64 0))⟩] none)
 (.seq
  (.region [
   ⟨some 5, none, .faddr 0 (.t 2)⟩,
   ⟨some 6, none, .load false 1 (.t 5)⟩,
   ⟨some 7, none, .faddr 0 (.t 3)⟩,
   ⟨some 8, none, .load false 1 (.t 7)⟩,
   ⟨some 9, none, .call 56 [(.t 6), (.t 8)]⟩,
   ⟨some 10, none, .faddr 1 (.t 2)⟩,
   ⟨some 11, none, .load false 1 (.t 10)⟩,
   ⟨some 12, none, .faddr 1 (.t 3)⟩,
   ⟨some 13, none, .load false 1 (.t 12)⟩,
   ⟨some 14, none, .call 57 [(.t 11), (.t 13)]⟩,
   ⟨some 15, none, .bslc 1 2 [.int .i64 0, .int .i64 0] [(0, 1, (.t 9)), (1, 1, (.t 14))]⟩,
   ⟨some 16, none, .call 55 [(.t 15)]⟩,
   ⟨some 4, none, .mv (.t 16)⟩] (some (9, [0, 1, 0, 4, 15, 0, 32, 0, 128, 511, 1023, 2047, 4095], 512)))
  .ret))⟩
theorem nf44_ok : compF Try.prog 44 = some nf44 := by kernel_rfl

/-- (comitia/inst.Inst).vote -/
def nf45 : NF := ⟨22, [.cell 12 true 15],
 (.seq
 (.region [
  ⟨some 6, none, .box (.t 0)⟩,
  ⟨some 8, none, .box (.t 2)⟩,
  ⟨some 9, none, .box (.t 3)⟩,
  ⟨some 10, none, .box (.t 4)⟩,
  ⟨some 12, none, .new [.int .i64 0, .int .i64 0, .int .i64 0, .int .i64 0, .int .i64 0, .int .u32 0, .str ByteArray.empty, .str ByteArray.empty, .int .u32 0, .slc 0 true [], .int .u32 0, .int .i64 0, .int .u32 0, .int .i64 0, .bool false]⟩] none)
 (.seq
  (.region [
   ⟨some 13, none, .faddr 0 (.t 6)⟩,
   ⟨some 14, none, .load true 2 (.t 13)⟩,
   ⟨some 15, none, .mv (.t 1)⟩,
   ⟨some 16, none, .load true 5 (.t 9)⟩,
   ⟨some 17, none, .load true 2 (.t 10)⟩,
   ⟨some 18, none, .load true 2 (.t 8)⟩,
   ⟨some 19, none, .load true 2 (.t 8)⟩,
   ⟨some 20, none, .mv (.t 5)⟩,
   ⟨some 21, none, .build [.int .i64 0, .int .i64 0, .int .i64 0, .int .i64 0, .int .i64 0, .int .u32 0, .str ByteArray.empty, .str ByteArray.empty, .int .u32 0, .slc 0 true [], .int .u32 0, .int .i64 0, .int .u32 0, .int .i64 0, .bool false] [(0, 2, (.t 14)), (2, 1, (.t 15)), (3, 5, (.t 16)), (8, 2, (.t 17)), (10, 2, (.t 18)), (12, 2, (.t 19)), (14, 1, (.t 20))]⟩,
   ⟨none, none, .store 15 (.t 12) (.t 21)⟩] none)
  .ret))⟩
theorem nf45_ok : compF Try.prog 45 = some nf45 := by kernel_rfl

/-- comitia/comitialaw13.few -/
def nf46 : NF := ⟨53, [.tmp 2],
 (.seq
 (.region [
  ⟨some 2, none, .mv (.c (.slc 0 true []))⟩] none)
 (.seq
  (.region [
   ⟨some 3, none, .new [.bool false, .bool false, .bool false, .bool false, .bool false, .bool false, .bool false, .bool false, .bool false, .bool false, .bool false, .bool false, .bool false, .bool false, .bool false, .bool false, .bool false, .bool false, .bool false, .bool false, .bool false, .bool false, .bool false, .bool false, .bool false, .bool false, .bool false, .bool false, .bool false, .bool false, .bool false, .bool false, .bool false, .bool false, .bool false, .bool false]⟩] none)
  (.seq
   (.seq
    (.region [
     ⟨some 4, none, .mv (.c (.int .i64 0))⟩] none)
    (.block 0 (.loop (.seq
       (.seq
        (.region [
         ⟨some 8, none, .mv (.t 4)⟩,
         ⟨some 9, none, .mv (.t 0)⟩,
         ⟨some 10, none, .len .slc (.t 9)⟩,
         ⟨some 11, none, .bin .lss (.t 8) (.t 10)⟩,
         ⟨some 12, none, .mv (.t 11)⟩,
         ⟨some 13, some (12, true), .mv (.t 4)⟩,
         ⟨some 14, some (12, true), .bin .lss (.t 13) (.c (.int .i64 20))⟩,
         ⟨some 15, none, .pick (.t 12) (.t 14) (.c (.bool false))⟩] none)
        (.cond (.t 15)
         .skip
         (.exit 0)))
       (.seq
        (.block 1 (.region [
          ⟨some 18, none, .mv (.t 0)⟩,
          ⟨some 19, none, .mv (.t 4)⟩,
          ⟨some 20, none, .iaddr (.slc 1) (.t 18) (.t 19)⟩,
          ⟨some 21, none, .load false 1 (.t 20)⟩,
          ⟨some 22, none, .bin .rem (.t 21) (.c (.int .u8 3))⟩,
          ⟨some 23, none, .mv (.t 0)⟩,
          ⟨some 24, none, .mv (.t 4)⟩,
          ⟨some 25, none, .iaddr (.slc 1) (.t 23) (.t 24)⟩,
          ⟨some 26, none, .load false 1 (.t 25)⟩,
          ⟨some 27, none, .bin .quo (.t 26) (.c (.int .u8 3))⟩,
          ⟨some 28, none, .bin .rem (.t 27) (.c (.int .u8 12))⟩,
          ⟨some 29, none, .iaddr (.arr 3 12) (.t 3) (.t 22)⟩,
          ⟨some 30, none, .iaddr (.arr 12 1) (.t 29) (.t 28)⟩,
          ⟨none, none, .store 1 (.t 30) (.c (.bool true))⟩] (some (12, [0, 0, 3, 7, 15, 0, 0, 96, 224, 480, 992, 31, 4095, 8191], 0))))
        (.region [
         ⟨some 16, none, .mv (.t 4)⟩,
         ⟨some 17, none, .bin .add (.t 16) (.c (.int .i64 1))⟩,
         ⟨some 4, none, .mv (.t 17)⟩] none))))))
   (.seq
    (.region [
     ⟨some 5, none, .mv (.c (.slc 0 true []))⟩] none)
    (.seq
     (.seq
      (.region [
       ⟨some 6, none, .mv (.c (.int .i64 0))⟩] none)
      (.block 2 (.loop (.seq
         (.seq
          (.region [
           ⟨some 31, none, .mv (.t 6)⟩,
           ⟨some 32, none, .bin .lss (.t 31) (.c (.int .i64 3))⟩] none)
          (.cond (.t 32)
           .skip
           (.exit 2)))
         (.seq
          (.block 3 (.seq
            (.region [
             ⟨some 7, none, .mv (.c (.int .i64 0))⟩] none)
            (.block 4 (.loop (.seq
               (.seq
                (.region [
                 ⟨some 35, none, .mv (.t 7)⟩,
                 ⟨some 36, none, .bin .lss (.t 35) (.c (.int .i64 12))⟩] none)
                (.cond (.t 36)
                 .skip
                 (.exit 4)))
               (.seq
                (.block 5 (.seq
                  (.region [
                   ⟨some 39, none, .mv (.t 6)⟩,
                   ⟨some 40, none, .mv (.t 7)⟩,
                   ⟨some 41, none, .iaddr (.arr 3 12) (.t 3) (.t 39)⟩,
                   ⟨some 42, none, .iaddr (.arr 12 1) (.t 41) (.t 40)⟩,
                   ⟨some 43, none, .load false 1 (.t 42)⟩] none)
                  (.cond (.t 43)
                   (.region [
                    ⟨some 44, none, .mv (.t 5)⟩,
                    ⟨some 45, none, .mv (.t 6)⟩,
                    ⟨some 46, none, .bin .add (.t 45) (.c (.int .i64 1))⟩,
                    ⟨some 47, none, .mv (.t 7)⟩,
                    ⟨some 48, none, .bin .add (.t 47) (.c (.int .i64 1))⟩,
                    ⟨some 49, none, .build [.int .i64 0, .int .i64 0] [(0, 1, (.t 46)), (1, 1, (.t 48))]⟩,
                    ⟨some 50, none, .bslc 2 1 [.int .i64 0, .int .i64 0] [(0, 2, (.t 49))]⟩,
                    ⟨some 51, none, .app 2 16 (.t 44) (.t 50)⟩,
                    ⟨some 5, none, .mv (.t 51)⟩] none)
                   .skip)))
                (.region [
                 ⟨some 37, none, .mv (.t 7)⟩,
                 ⟨some 38, none, .bin .add (.t 37) (.c (.int .i64 1))⟩,
                 ⟨some 7, none, .mv (.t 38)⟩] none)))))))
          (.region [
           ⟨some 33, none, .mv (.t 6)⟩,
           ⟨some 34, none, .bin .add (.t 33) (.c (.int .i64 1))⟩,
           ⟨some 6, none, .mv (.t 34)⟩] none))))))
     (.seq
      (.region [
       ⟨some 52, none, .mv (.t 5)⟩,
       ⟨some 2, none, .mv (.t 52)⟩] none)
      .ret))))))⟩
theorem nf46_ok : compF Try.prog 46 = some nf46 := by kernel_rfl

/-- comitia/comitialaw13.bal -/
def nf47 : NF := ⟨16, [.cell 2 true 2],
 (.seq
 (.region [
  ⟨some 2, none, .new [.int .u32 0, .int .i64 0]⟩] none)
 (.seq
  (.seq
   (.region [
    ⟨some 3, none, .mv (.t 0)⟩,
    ⟨some 4, none, .bin .rem (.t 3) (.c (.int .u8 4))⟩,
    ⟨some 5, none, .bin .eql (.t 4) (.c (.int .u8 0))⟩] none)
   (.cond (.t 5)
    (.seq
     (.region [
      ⟨some 6, none, .build [.int .u32 0, .int .i64 0] []⟩,
      ⟨none, none, .store 2 (.t 2) (.t 6)⟩] none)
     .ret)
    .skip))
  (.seq
   (.region [
    ⟨some 7, none, .mv (.t 0)⟩,
    ⟨some 8, none, .bin .rem (.t 7) (.c (.int .u8 4))⟩,
    ⟨some 9, none, .i2i .u32 (.t 8)⟩,
    ⟨some 10, none, .mv (.t 0)⟩,
    ⟨some 11, none, .bin .quo (.t 10) (.c (.int .u8 4))⟩,
    ⟨some 12, none, .bin .rem (.t 11) (.c (.int .u8 3))⟩,
    ⟨some 13, none, .i2i .i64 (.t 12)⟩,
    ⟨some 14, none, .bin .add (.c (.int .i64 1)) (.t 13)⟩,
    ⟨some 15, none, .build [.int .u32 0, .int .i64 0] [(0, 1, (.t 9)), (1, 1, (.t 14))]⟩,
    ⟨none, none, .store 2 (.t 2) (.t 15)⟩] none)
   .ret)))⟩
theorem nf47_ok : compF Try.prog 47 = some nf47 := by kernel_rfl

/-- comitia/comitialaw13.refBal -/
def nf48 : NF := ⟨8, [.cell 2 true 2],
 (.seq
 (.region [
  ⟨some 1, none, .box (.t 0)⟩,
  ⟨some 2, none, .new [.int .u32 0, .int .i64 0]⟩] none)
 (.seq
  (.region [
   ⟨some 3, none, .faddr 0 (.t 1)⟩,
   ⟨some 4, none, .load false 1 (.t 3)⟩,
   ⟨some 5, none, .faddr 1 (.t 1)⟩,
   ⟨some 6, none, .load false 1 (.t 5)⟩,
   ⟨some 7, none, .build [.int .u32 0, .int .i64 0] [(0, 1, (.t 4)), (1, 1, (.t 6))]⟩,
   ⟨none, none, .store 2 (.t 2) (.t 7)⟩] none)
  .ret))⟩
theorem nf48_ok : compF Try.prog 48 = some nf48 := by kernel_rfl

/-- slices.ContainsFunc[[]comitia/choose.Reply,comitia/choose.Reply] -/
def nf49 : NF := ⟨9, [.tmp 4],
 (.seq
 (.region [
  ⟨some 4, none, .mv (.c (.bool false))⟩] none)
 (.seq
  (.region [
   ⟨some 5, none, .mv (.t 0)⟩,
   ⟨some 6, none, .mv (.t 1)⟩,
   ⟨some 7, none, .call 58 [(.t 5), (.t 6)]⟩,
   ⟨some 8, none, .bin .geq (.t 7) (.c (.int .i64 0))⟩,
   ⟨some 4, none, .mv (.t 8)⟩] none)
  .ret))⟩
theorem nf49_ok : compF Try.prog 49 = some nf49 := by kernel_rfl

/-- comitia/choose.counted$1 -/
def nf50 : NF := ⟨9, [.tmp 3],
 (.seq
 (.region [
  ⟨some 2, none, .box (.t 0)⟩,
  ⟨some 3, none, .mv (.c (.bool false))⟩] none)
 (.seq
  (.region [
   ⟨some 4, none, .faddr 0 (.t 2)⟩,
   ⟨some 5, none, .load false 1 (.t 4)⟩,
   ⟨some 6, none, .faddr 0 (.t 1)⟩,
   ⟨some 7, none, .load false 1 (.t 6)⟩,
   ⟨some 8, none, .bin .eql (.t 5) (.t 7)⟩,
   ⟨some 3, none, .mv (.t 8)⟩] none)
  .ret))⟩
theorem nf50_ok : compF Try.prog 50 = some nf50 := by kernel_rfl

/-- slices.MaxFunc[[]comitia/inst.Inst,comitia/inst.Inst] -/
def nf51 : NF := ⟨33, [.cell 4 true 15],
 (.seq
 (.region [
  ⟨some 4, none, .new [.int .i64 0, .int .i64 0, .int .i64 0, .int .i64 0, .int .i64 0, .int .u32 0, .str ByteArray.empty, .str ByteArray.empty, .int .u32 0, .slc 0 true [], .int .u32 0, .int .i64 0, .int .u32 0, .int .i64 0, .bool false]⟩] none)
 (.seq
  (.seq
   (.region [
    ⟨some 7, none, .mv (.t 0)⟩,
    ⟨some 8, none, .len .slc (.t 7)⟩,
    ⟨some 9, none, .bin .lss (.t 8) (.c (.int .i64 1))⟩] none)
   (.cond (.t 9)
    (.region [
     ⟨some 10, none, .bad⟩,
     ⟨none, none, .bad⟩] none)
    .skip))
  (.seq
   (.region [
    ⟨some 11, none, .mv (.t 0)⟩,
    ⟨some 12, none, .iaddr (.slc 15) (.t 11) (.c (.int .i64 0))⟩,
    ⟨some 13, none, .load true 15 (.t 12)⟩,
    ⟨some 5, none, .new [.int .i64 0, .int .i64 0, .int .i64 0, .int .i64 0, .int .i64 0, .int .u32 0, .str ByteArray.empty, .str ByteArray.empty, .int .u32 0, .slc 0 true [], .int .u32 0, .int .i64 0, .int .u32 0, .int .i64 0, .bool false]⟩,
    ⟨none, none, .store 15 (.t 5) (.t 13)⟩] none)
   (.seq
    (.seq
     (.region [
      ⟨some 6, none, .mv (.c (.int .i64 1))⟩] none)
     (.block 0 (.loop (.seq
        (.seq
         (.region [
          ⟨some 14, none, .mv (.t 6)⟩,
          ⟨some 15, none, .mv (.t 0)⟩,
          ⟨some 16, none, .len .slc (.t 15)⟩,
          ⟨some 17, none, .bin .lss (.t 14) (.t 16)⟩] none)
         (.cond (.t 17)
          .skip
          (.exit 0)))
        (.seq
         (.block 1 (.seq
           (.region [
            ⟨some 20, none, .mv (.t 1)⟩,
            ⟨some 21, none, .mv (.t 0)⟩,
            ⟨some 22, none, .mv (.t 6)⟩,
            ⟨some 23, none, .iaddr (.slc 15) (.t 21) (.t 22)⟩,
            ⟨some 24, none, .load true 15 (.t 23)⟩,
            ⟨some 25, none, .load true 15 (.t 5)⟩,
            ⟨some 26, none, .dyn (.t 20) [(.t 24), (.t 25)]⟩,
            ⟨some 27, none, .bin .gtr (.t 26) (.c (.int .i64 0))⟩] (some (6, [0, 0, 0, 6, 14, 0, 63, 127], 0)))
           (.cond (.t 27)
            (.region [
             ⟨some 28, none, .mv (.t 0)⟩,
             ⟨some 29, none, .mv (.t 6)⟩,
             ⟨some 30, none, .iaddr (.slc 15) (.t 28) (.t 29)⟩,
             ⟨some 31, none, .load true 15 (.t 30)⟩,
             ⟨none, none, .store 15 (.t 5) (.t 31)⟩] none)
            .skip)))
         (.region [
          ⟨some 18, none, .mv (.t 6)⟩,
          ⟨some 19, none, .bin .add (.t 18) (.c (.int .i64 1))⟩,
          ⟨some 6, none, .mv (.t 19)⟩] none))))))
    (.seq
     (.region [
      ⟨some 32, none, .load true 15 (.t 5)⟩,
      ⟨none, none, .store 15 (.t 4) (.t 32)⟩] none)
     .ret)))))⟩
theorem nf51_ok : compF Try.prog 51 = some nf51 := by kernel_rfl

/-- comitia/choose.by$1 -/
def nf52 : NF := ⟨10, [.tmp 4],
 (.seq
 (.region [
  ⟨some 2, none, .box (.t 0)⟩,
  ⟨some 3, none, .box (.t 1)⟩,
  ⟨some 4, none, .mv (.c (.int .i64 0))⟩] none)
 (.seq
  (.region [
   ⟨some 5, none, .faddr 12 (.t 2)⟩,
   ⟨some 6, none, .load true 2 (.t 5)⟩,
   ⟨some 7, none, .faddr 12 (.t 3)⟩,
   ⟨some 8, none, .load true 2 (.t 7)⟩,
   ⟨some 9, none, .call 44 [(.t 6), (.t 8)]⟩,
   ⟨some 4, none, .mv (.t 9)⟩] none)
  .ret))⟩
theorem nf52_ok : compF Try.prog 52 = some nf52 := by kernel_rfl

/-- comitia/attr.Join -/
def nf53 : NF := ⟨16, [.cell 4 true 2],
 (.seq
 (.region [
  ⟨some 2, none, .box (.t 0)⟩,
  ⟨some 3, none, .box (.t 1)⟩,
  ⟨some 4, none, .new [.int .u32 0, .slc 0 true []]⟩] none)
 (.seq
  (.region [
   ⟨some 5, none, .faddr 0 (.t 2)⟩,
   ⟨some 6, none, .load false 1 (.t 5)⟩,
   ⟨some 7, none, .faddr 0 (.t 3)⟩,
   ⟨some 8, none, .load false 1 (.t 7)⟩,
   ⟨some 9, none, .mm true [(.t 6), (.t 8)]⟩,
   ⟨some 10, none, .faddr 1 (.t 2)⟩,
   ⟨some 11, none, .load false 1 (.t 10)⟩,
   ⟨some 12, none, .faddr 1 (.t 3)⟩,
   ⟨some 13, none, .load false 1 (.t 12)⟩,
   ⟨some 14, none, .call 59 [(.t 11), (.t 13)]⟩,
   ⟨some 15, none, .build [.int .u32 0, .slc 0 true []] [(0, 1, (.t 9)), (1, 1, (.t 14))]⟩,
   ⟨none, none, .store 2 (.t 4) (.t 15)⟩] (some (10, [0, 1, 0, 4, 15, 0, 32, 0, 128, 480, 1023, 2047], 524288)))
  .ret))⟩
theorem nf53_ok : compF Try.prog 53 = some nf53 := by kernel_rfl

/-- comitia/comitiaref06.Order -/
def nf54 : NF := ⟨27, [.tmp 4],
 (.seq
 (.region [
  ⟨some 2, none, .box (.t 0)⟩,
  ⟨some 3, none, .box (.t 1)⟩,
  ⟨some 4, none, .mv (.c (.int .i64 0))⟩] none)
 (.seq
  (.seq
   (.region [
    ⟨some 5, none, .faddr 0 (.t 2)⟩,
    ⟨some 6, none, .load false 1 (.t 5)⟩,
    ⟨some 7, none, .faddr 0 (.t 3)⟩,
    ⟨some 8, none, .load false 1 (.t 7)⟩,
    ⟨some 9, none, .bin .lss (.t 6) (.t 8)⟩,
    ⟨some 10, none, .mv (.t 9)⟩,
    ⟨some 11, some (10, false), .faddr 0 (.t 2)⟩,
    ⟨some 12, some (10, false), .load false 1 (.t 11)⟩,
    ⟨some 13, some (10, false), .faddr 0 (.t 3)⟩,
    ⟨some 14, some (10, false), .load false 1 (.t 13)⟩,
    ⟨some 15, some (10, false), .bin .eql (.t 12) (.t 14)⟩,
    ⟨some 16, some (10, false), .mv (.t 15)⟩,
    ⟨some 17, some (16, true), .faddr 1 (.t 2)⟩,
    ⟨some 18, some (16, true), .load false 1 (.t 17)⟩,
    ⟨some 19, some (16, true), .faddr 1 (.t 3)⟩,
    ⟨some 20, some (16, true), .load false 1 (.t 19)⟩,
    ⟨some 21, some (16, true), .bin .lss (.t 18) (.t 20)⟩,
    ⟨some 22, some (10, false), .pick (.t 16) (.t 21) (.c (.bool false))⟩,
    ⟨some 23, none, .pick (.t 10) (.c (.bool true)) (.t 22)⟩] none)
   (.cond (.t 23)
    (.seq
     (.region [
      ⟨some 4, none, .mv (.c (.int .i64 (-1)))⟩] none)
     .ret)
    .skip))
  (.seq
   (.seq
    (.region [
     ⟨some 24, none, .load true 2 (.t 2)⟩,
     ⟨some 25, none, .load true 2 (.t 3)⟩,
     ⟨some 26, none, .eq (.key ⟨true, [.int, .int]⟩) false (.t 24) (.t 25)⟩] none)
    (.cond (.t 26)
     (.seq
      (.region [
       ⟨some 4, none, .mv (.c (.int .i64 0))⟩] none)
      .ret)
     .skip))
   (.seq
    (.region [
     ⟨some 4, none, .mv (.c (.int .i64 1))⟩] none)
    .ret))))⟩
theorem nf54_ok : compF Try.prog 54 = some nf54 := by kernel_rfl

/-- cmp.Or[int] -/
def nf55 : NF := ⟨18, [.tmp 2],
 (.seq
 (.region [
  ⟨some 2, none, .mv (.c (.int .i64 0))⟩] none)
 (.seq
  (.region [
   ⟨some 3, none, .mv (.c (.int .i64 0))⟩] none)
  (.seq
   (.seq
    (.region [
     ⟨some 6, none, .mv (.t 0)⟩,
     ⟨some 7, none, .len .slc (.t 6)⟩,
     ⟨some 8, none, .mv (.c (.int .i64 0))⟩] none)
    (.block 0 (.loop (.seq
       (.region [
        ⟨some 9, none, .bin .lss (.t 8) (.t 7)⟩] none)
       (.seq
        (.cond (.t 9)
         .skip
         (.exit 0))
        (.seq
         (.block 1 (.seq
           (.region [
            ⟨some 10, none, .iaddr (.slc 1) (.t 6) (.t 8)⟩,
            ⟨some 11, none, .load false 1 (.t 10)⟩,
            ⟨some 5, none, .mv (.t 11)⟩] none)
           (.seq
            (.region [
             ⟨some 12, none, .mv (.t 5)⟩,
             ⟨some 13, none, .mv (.t 3)⟩,
             ⟨some 14, none, .bin .neq (.t 12) (.t 13)⟩] none)
            (.cond (.t 14)
             (.seq
              (.region [
               ⟨some 15, none, .mv (.t 5)⟩,
               ⟨some 2, none, .mv (.t 15)⟩] none)
              .ret)
             .skip))))
         (.region [
          ⟨some 16, none, .bin .add (.t 8) (.c (.int .i64 1))⟩,
          ⟨some 8, none, .mv (.t 16)⟩] none)))))))
   (.seq
    (.region [
     ⟨some 17, none, .mv (.t 3)⟩,
     ⟨some 2, none, .mv (.t 17)⟩] none)
    .ret))))⟩
theorem nf55_ok : compF Try.prog 55 = some nf55 := by kernel_rfl

/-- cmp.Compare[uint32] -/
def nf56 : NF := ⟨20, [.tmp 4],
 (.seq
 (.region [
  ⟨some 4, none, .mv (.c (.int .i64 0))⟩] none)
 (.seq
  (.region [
   ⟨some 7, none, .mv (.t 0)⟩,
   ⟨some 8, none, .call 60 [(.t 7)]⟩,
   ⟨some 5, none, .mv (.t 8)⟩] none)
  (.seq
   (.region [
    ⟨some 9, none, .mv (.t 1)⟩,
    ⟨some 10, none, .call 60 [(.t 9)]⟩,
    ⟨some 6, none, .mv (.t 10)⟩] none)
   (.seq
    (.seq
     (.region [
      ⟨some 11, none, .mv (.t 5)⟩] none)
     (.cond (.t 11)
      (.seq
       (.seq
        (.region [
         ⟨some 12, none, .mv (.t 6)⟩] none)
        (.cond (.t 12)
         (.seq
          (.region [
           ⟨some 4, none, .mv (.c (.int .i64 0))⟩] none)
          .ret)
         .skip))
       (.seq
        (.region [
         ⟨some 4, none, .mv (.c (.int .i64 (-1)))⟩] none)
        .ret))
      .skip))
    (.seq
     (.seq
      (.region [
       ⟨some 13, none, .mv (.t 6)⟩] none)
      (.cond (.t 13)
       (.seq
        (.region [
         ⟨some 4, none, .mv (.c (.int .i64 1))⟩] none)
        .ret)
       .skip))
     (.seq
      (.seq
       (.region [
        ⟨some 14, none, .mv (.t 0)⟩,
        ⟨some 15, none, .mv (.t 1)⟩,
        ⟨some 16, none, .bin .lss (.t 14) (.t 15)⟩] none)
       (.cond (.t 16)
        (.seq
         (.region [
          ⟨some 4, none, .mv (.c (.int .i64 (-1)))⟩] none)
         .ret)
        .skip))
      (.seq
       (.seq
        (.region [
         ⟨some 17, none, .mv (.t 0)⟩,
         ⟨some 18, none, .mv (.t 1)⟩,
         ⟨some 19, none, .bin .gtr (.t 17) (.t 18)⟩] none)
        (.cond (.t 19)
         (.seq
          (.region [
           ⟨some 4, none, .mv (.c (.int .i64 1))⟩] none)
          .ret)
         .skip))
       (.seq
        (.region [
         ⟨some 4, none, .mv (.c (.int .i64 0))⟩] none)
        .ret))))))))⟩
theorem nf56_ok : compF Try.prog 56 = some nf56 := by kernel_rfl

/-- cmp.Compare[int] -/
def nf57 : NF := ⟨20, [.tmp 4],
 (.seq
 (.region [
  ⟨some 4, none, .mv (.c (.int .i64 0))⟩] none)
 (.seq
  (.region [
   ⟨some 7, none, .mv (.t 0)⟩,
   ⟨some 8, none, .call 61 [(.t 7)]⟩,
   ⟨some 5, none, .mv (.t 8)⟩] none)
  (.seq
   (.region [
    ⟨some 9, none, .mv (.t 1)⟩,
    ⟨some 10, none, .call 61 [(.t 9)]⟩,
    ⟨some 6, none, .mv (.t 10)⟩] none)
   (.seq
    (.seq
     (.region [
      ⟨some 11, none, .mv (.t 5)⟩] none)
     (.cond (.t 11)
      (.seq
       (.seq
        (.region [
         ⟨some 12, none, .mv (.t 6)⟩] none)
        (.cond (.t 12)
         (.seq
          (.region [
           ⟨some 4, none, .mv (.c (.int .i64 0))⟩] none)
          .ret)
         .skip))
       (.seq
        (.region [
         ⟨some 4, none, .mv (.c (.int .i64 (-1)))⟩] none)
        .ret))
      .skip))
    (.seq
     (.seq
      (.region [
       ⟨some 13, none, .mv (.t 6)⟩] none)
      (.cond (.t 13)
       (.seq
        (.region [
         ⟨some 4, none, .mv (.c (.int .i64 1))⟩] none)
        .ret)
       .skip))
     (.seq
      (.seq
       (.region [
        ⟨some 14, none, .mv (.t 0)⟩,
        ⟨some 15, none, .mv (.t 1)⟩,
        ⟨some 16, none, .bin .lss (.t 14) (.t 15)⟩] none)
       (.cond (.t 16)
        (.seq
         (.region [
          ⟨some 4, none, .mv (.c (.int .i64 (-1)))⟩] none)
         .ret)
        .skip))
      (.seq
       (.seq
        (.region [
         ⟨some 17, none, .mv (.t 0)⟩,
         ⟨some 18, none, .mv (.t 1)⟩,
         ⟨some 19, none, .bin .gtr (.t 17) (.t 18)⟩] none)
        (.cond (.t 19)
         (.seq
          (.region [
           ⟨some 4, none, .mv (.c (.int .i64 1))⟩] none)
          .ret)
         .skip))
       (.seq
        (.region [
         ⟨some 4, none, .mv (.c (.int .i64 0))⟩] none)
        .ret))))))))⟩
theorem nf57_ok : compF Try.prog 57 = some nf57 := by kernel_rfl

/-- slices.IndexFunc[[]comitia/choose.Reply,comitia/choose.Reply] -/
def nf58 : NF := ⟨19, [.tmp 4],
 (.seq
 (.region [
  ⟨some 4, none, .mv (.c (.int .i64 0))⟩] none)
 (.seq
  (.seq
   (.region [
    ⟨some 6, none, .mv (.t 0)⟩,
    ⟨some 7, none, .len .slc (.t 6)⟩,
    ⟨some 8, none, .mv (.c (.int .i64 0))⟩] none)
   (.block 0 (.loop (.seq
      (.region [
       ⟨some 9, none, .bin .lss (.t 8) (.t 7)⟩] none)
      (.seq
       (.cond (.t 9)
        .skip
        (.exit 0))
       (.seq
        (.block 1 (.seq
          (.region [
           ⟨some 10, none, .mv (.t 8)⟩,
           ⟨some 5, none, .mv (.t 10)⟩] none)
          (.seq
           (.region [
            ⟨some 11, none, .mv (.t 1)⟩,
            ⟨some 12, none, .mv (.t 0)⟩,
            ⟨some 13, none, .mv (.t 5)⟩,
            ⟨some 14, none, .iaddr (.slc 16) (.t 12) (.t 13)⟩,
            ⟨some 15, none, .load true 16 (.t 14)⟩,
            ⟨some 16, none, .dyn (.t 11) [(.t 15)]⟩] none)
           (.cond (.t 16)
            (.seq
             (.region [
              ⟨some 17, none, .mv (.t 5)⟩,
              ⟨some 4, none, .mv (.t 17)⟩] none)
             .ret)
            .skip))))
        (.region [
         ⟨some 18, none, .bin .add (.t 8) (.c (.int .i64 1))⟩,
         ⟨some 8, none, .mv (.t 18)⟩] none)))))))
  (.seq
   (.region [
    ⟨some 4, none, .mv (.c (.int .i64 (-1)))⟩] none)
   .ret)))⟩
theorem nf58_ok : compF Try.prog 58 = some nf58 := by kernel_rfl

/-- comitia/deps.Join -/
def nf59 : NF := ⟨8, [.tmp 4],
 (.seq
 (.region [
  ⟨some 4, none, .mv (.c (.slc 0 true []))⟩] none)
 (.seq
  (.region [
   ⟨some 5, none, .mv (.t 0)⟩,
   ⟨some 6, none, .mv (.t 1)⟩,
   ⟨some 7, none, .call 62 [(.t 5), (.t 6), (.c (.bool true))]⟩,
   ⟨some 4, none, .mv (.t 7)⟩] none)
  .ret))⟩
theorem nf59_ok : compF Try.prog 59 = some nf59 := by kernel_rfl

/-- cmp.isNaN[uint32] -/
def nf60 : NF := ⟨6, [.tmp 2],
 (.seq
 (.region [
  ⟨some 2, none, .mv (.c (.bool false))⟩] none)
 (.seq
  (.region [
   ⟨some 3, none, .mv (.t 0)⟩,
   ⟨some 4, none, .mv (.t 0)⟩,
   ⟨some 5, none, .bin .neq (.t 3) (.t 4)⟩,
   ⟨some 2, none, .mv (.t 5)⟩] none)
  .ret))⟩
theorem nf60_ok : compF Try.prog 60 = some nf60 := by kernel_rfl

/-- cmp.isNaN[int] -/
def nf61 : NF := ⟨6, [.tmp 2],
 (.seq
 (.region [
  ⟨some 2, none, .mv (.c (.bool false))⟩] none)
 (.seq
  (.region [
   ⟨some 3, none, .mv (.t 0)⟩,
   ⟨some 4, none, .mv (.t 0)⟩,
   ⟨some 5, none, .bin .neq (.t 3) (.t 4)⟩,
   ⟨some 2, none, .mv (.t 5)⟩] none)
  .ret))⟩
theorem nf61_ok : compF Try.prog 61 = some nf61 := by kernel_rfl

/-- comitia/deps.merge -/
def nf62 : NF := ⟨57, [.tmp 6],
 (.seq
 (.region [
  ⟨some 6, none, .mv (.c (.slc 0 true []))⟩] none)
 (.scope (.seq
   (.region [
    ⟨some 7, none, .mv (.c (.slc 0 true []))⟩] none)
   (.seq
    (.region [
     ⟨some 8, none, .mv (.c (.int .i64 0))⟩] none)
    (.seq
     (.label 0)
     (.seq
      (.block 0 (.seq
        (.region [
         ⟨some 17, none, .mv (.t 0)⟩,
         ⟨some 18, none, .len .slc (.t 17)⟩,
         ⟨some 19, none, .bin .eql (.t 18) (.c (.int .i64 0))⟩,
         ⟨some 20, none, .mv (.t 19)⟩,
         ⟨some 21, some (20, true), .mv (.t 1)⟩,
         ⟨some 22, some (20, true), .len .slc (.t 21)⟩,
         ⟨some 23, some (20, true), .bin .eql (.t 22) (.c (.int .i64 0))⟩,
         ⟨some 24, none, .pick (.t 20) (.t 23) (.c (.bool false))⟩,
         ⟨some 16, none, .mv (.t 24)⟩] none)
        (.cond (.t 16)
         (.seq
          (.region [
           ⟨some 25, none, .mv (.t 7)⟩,
           ⟨some 6, none, .mv (.t 25)⟩] none)
          .ret)
         (.seq
          (.region [
           ⟨some 27, none, .mv (.t 0)⟩,
           ⟨some 28, none, .len .slc (.t 27)⟩,
           ⟨some 29, none, .bin .eql (.t 28) (.c (.int .i64 0))⟩,
           ⟨some 26, none, .mv (.t 29)⟩] none)
          (.cond (.t 26)
           (.region [
            ⟨some 8, none, .mv (.c (.int .i64 1))⟩] none)
           (.seq
            (.region [
             ⟨some 31, none, .mv (.t 1)⟩,
             ⟨some 32, none, .len .slc (.t 31)⟩,
             ⟨some 33, none, .bin .eql (.t 32) (.c (.int .i64 0))⟩,
             ⟨some 30, none, .mv (.t 33)⟩] none)
            (.cond (.t 30)
             (.region [
              ⟨some 8, none, .mv (.c (.int .i64 (-1)))⟩] none)
             (.region [
              ⟨some 9, none, .mv (.t 0)⟩,
              ⟨some 10, none, .iaddr (.slc 2) (.t 9) (.c (.int .i64 0))⟩,
              ⟨some 11, none, .load true 2 (.t 10)⟩,
              ⟨some 12, none, .mv (.t 1)⟩,
              ⟨some 13, none, .iaddr (.slc 2) (.t 12) (.c (.int .i64 0))⟩,
              ⟨some 14, none, .load true 2 (.t 13)⟩,
              ⟨some 15, none, .call 63 [(.t 11), (.t 14)]⟩,
              ⟨some 8, none, .mv (.t 15)⟩] (some (6, [0, 1, 3, 0, 8, 24, 63, 127], 0))))))))))
      (.seq
       (.seq
        (.region [
         ⟨some 34, none, .mv (.t 8)⟩,
         ⟨some 35, none, .bin .lss (.t 34) (.c (.int .i64 0))⟩] none)
        (.cond (.t 35)
         (.seq
          (.region [
           ⟨some 36, none, .mv (.t 7)⟩,
           ⟨some 37, none, .mv (.t 0)⟩,
           ⟨some 38, none, .iaddr (.slc 2) (.t 37) (.c (.int .i64 0))⟩,
           ⟨some 39, none, .load true 2 (.t 38)⟩,
           ⟨some 40, none, .bslc 2 1 [.int .i64 0, .int .i64 0] [(0, 2, (.t 39))]⟩,
           ⟨some 41, none, .app 2 16 (.t 36) (.t 40)⟩,
           ⟨some 42, none, .mv (.t 0)⟩,
           ⟨some 43, none, .slice (.slc 2) (.t 42) (some (.c (.int .i64 1))) none none⟩,
           ⟨some 7, none, .mv (.t 41)⟩,
           ⟨some 0, none, .mv (.t 43)⟩] (some (9, [0, 0, 2, 6, 14, 31, 0, 64, 63, 511], 0)))
          (.goto 0))
         .skip))
       (.seq
        (.seq
         (.region [
          ⟨some 44, none, .mv (.t 2)⟩] none)
         (.cond (.t 44)
          (.region [
           ⟨some 45, none, .mv (.t 7)⟩,
           ⟨some 46, none, .mv (.t 1)⟩,
           ⟨some 47, none, .iaddr (.slc 2) (.t 46) (.c (.int .i64 0))⟩,
           ⟨some 48, none, .load true 2 (.t 47)⟩,
           ⟨some 49, none, .bslc 2 1 [.int .i64 0, .int .i64 0] [(0, 2, (.t 48))]⟩,
           ⟨some 50, none, .app 2 16 (.t 45) (.t 49)⟩,
           ⟨some 7, none, .mv (.t 50)⟩] none)
          .skip))
        (.seq
         (.seq
          (.region [
           ⟨some 51, none, .mv (.t 1)⟩,
           ⟨some 52, none, .slice (.slc 2) (.t 51) (some (.c (.int .i64 1))) none none⟩,
           ⟨some 1, none, .mv (.t 52)⟩] none)
          (.seq
           (.region [
            ⟨some 53, none, .mv (.t 8)⟩,
            ⟨some 54, none, .bin .eql (.t 53) (.c (.int .i64 0))⟩] none)
           (.cond (.t 54)
            (.region [
             ⟨some 55, none, .mv (.t 0)⟩,
             ⟨some 56, none, .slice (.slc 2) (.t 55) (some (.c (.int .i64 1))) none none⟩,
             ⟨some 0, none, .mv (.t 56)⟩] none)
            .skip)))
         (.goto 0))))))))))⟩
theorem nf62_ok : compF Try.prog 62 = some nf62 := by kernel_rfl

/-- comitia/deps.Order -/
def nf63 : NF := ⟨17, [.tmp 4],
 (.seq
 (.region [
  ⟨some 2, none, .box (.t 0)⟩,
  ⟨some 3, none, .box (.t 1)⟩,
  ⟨some 4, none, .mv (.c (.int .i64 0))⟩] none)
 (.seq
  (.region [
   ⟨some 5, none, .faddr 0 (.t 2)⟩,
   ⟨some 6, none, .load false 1 (.t 5)⟩,
   ⟨some 7, none, .faddr 0 (.t 3)⟩,
   ⟨some 8, none, .load false 1 (.t 7)⟩,
   ⟨some 9, none, .call 57 [(.t 6), (.t 8)]⟩,
   ⟨some 10, none, .faddr 1 (.t 2)⟩,
   ⟨some 11, none, .load false 1 (.t 10)⟩,
   ⟨some 12, none, .faddr 1 (.t 3)⟩,
   ⟨some 13, none, .load false 1 (.t 12)⟩,
   ⟨some 14, none, .call 57 [(.t 11), (.t 13)]⟩,
   ⟨some 15, none, .bslc 1 2 [.int .i64 0, .int .i64 0] [(0, 1, (.t 9)), (1, 1, (.t 14))]⟩,
   ⟨some 16, none, .call 55 [(.t 15)]⟩,
   ⟨some 4, none, .mv (.t 16)⟩] (some (9, [0, 1, 0, 4, 15, 0, 32, 0, 128, 511, 1023, 2047, 4095], 512)))
  .ret))⟩
theorem nf63_ok : compF Try.prog 63 = some nf63 := by kernel_rfl

def F : FuncId → Option NF
  | 3 => some nf3
  | 4 => some nf4
  | 5 => some nf5
  | 6 => some nf6
  | 7 => some nf7
  | 8 => some nf8
  | 9 => some nf9
  | 10 => some nf10
  | 11 => some nf11
  | 12 => some nf12
  | 13 => some nf13
  | 14 => some nf14
  | 15 => some nf15
  | 16 => some nf16
  | 17 => some nf17
  | 18 => some nf18
  | 19 => some nf19
  | 20 => some nf20
  | 21 => some nf21
  | 22 => some nf22
  | 23 => some nf23
  | 24 => some nf24
  | 25 => some nf25
  | 26 => some nf26
  | 27 => some nf27
  | 28 => some nf28
  | 29 => some nf29
  | 30 => some nf30
  | 31 => some nf31
  | 32 => some nf32
  | 33 => some nf33
  | 34 => some nf34
  | 35 => some nf35
  | 36 => some nf36
  | 37 => some nf37
  | 38 => some nf38
  | 39 => some nf39
  | 40 => some nf40
  | 41 => some nf41
  | 42 => some nf42
  | 43 => some nf43
  | 44 => some nf44
  | 45 => some nf45
  | 46 => some nf46
  | 47 => some nf47
  | 48 => some nf48
  | 49 => some nf49
  | 50 => some nf50
  | 51 => some nf51
  | 52 => some nf52
  | 53 => some nf53
  | 54 => some nf54
  | 55 => some nf55
  | 56 => some nf56
  | 57 => some nf57
  | 58 => some nf58
  | 59 => some nf59
  | 60 => some nf60
  | 61 => some nf61
  | 62 => some nf62
  | 63 => some nf63
  | _ => none
theorem F_ok (f : FuncId) (nf : NF) (h : F f = some nf) : compF Try.prog f = some nf := by
  unfold F at h
  split at h
  · rw [← h]; exact nf3_ok
  · rw [← h]; exact nf4_ok
  · rw [← h]; exact nf5_ok
  · rw [← h]; exact nf6_ok
  · rw [← h]; exact nf7_ok
  · rw [← h]; exact nf8_ok
  · rw [← h]; exact nf9_ok
  · rw [← h]; exact nf10_ok
  · rw [← h]; exact nf11_ok
  · rw [← h]; exact nf12_ok
  · rw [← h]; exact nf13_ok
  · rw [← h]; exact nf14_ok
  · rw [← h]; exact nf15_ok
  · rw [← h]; exact nf16_ok
  · rw [← h]; exact nf17_ok
  · rw [← h]; exact nf18_ok
  · rw [← h]; exact nf19_ok
  · rw [← h]; exact nf20_ok
  · rw [← h]; exact nf21_ok
  · rw [← h]; exact nf22_ok
  · rw [← h]; exact nf23_ok
  · rw [← h]; exact nf24_ok
  · rw [← h]; exact nf25_ok
  · rw [← h]; exact nf26_ok
  · rw [← h]; exact nf27_ok
  · rw [← h]; exact nf28_ok
  · rw [← h]; exact nf29_ok
  · rw [← h]; exact nf30_ok
  · rw [← h]; exact nf31_ok
  · rw [← h]; exact nf32_ok
  · rw [← h]; exact nf33_ok
  · rw [← h]; exact nf34_ok
  · rw [← h]; exact nf35_ok
  · rw [← h]; exact nf36_ok
  · rw [← h]; exact nf37_ok
  · rw [← h]; exact nf38_ok
  · rw [← h]; exact nf39_ok
  · rw [← h]; exact nf40_ok
  · rw [← h]; exact nf41_ok
  · rw [← h]; exact nf42_ok
  · rw [← h]; exact nf43_ok
  · rw [← h]; exact nf44_ok
  · rw [← h]; exact nf45_ok
  · rw [← h]; exact nf46_ok
  · rw [← h]; exact nf47_ok
  · rw [← h]; exact nf48_ok
  · rw [← h]; exact nf49_ok
  · rw [← h]; exact nf50_ok
  · rw [← h]; exact nf51_ok
  · rw [← h]; exact nf52_ok
  · rw [← h]; exact nf53_ok
  · rw [← h]; exact nf54_ok
  · rw [← h]; exact nf55_ok
  · rw [← h]; exact nf56_ok
  · rw [← h]; exact nf57_ok
  · rw [← h]; exact nf58_ok
  · rw [← h]; exact nf59_ok
  · rw [← h]; exact nf60_ok
  · rw [← h]; exact nf61_ok
  · rw [← h]; exact nf62_ok
  · rw [← h]; exact nf63_ok
  · cases h
end Go.Proofs.Ythecdihimfddgaa.Nv
