/- The functions that these statements reach, with their static parts reckoned; that they are the program's. -/
import Derived.Test.YtibpoeaableoeaaNvCall
import Derived.Test.YtibpoeaableoeaaNvW
import Derived.Test.YtibpoeaableoeaaChecked
import Derived.KernelRfl
namespace Go.Proofs.Ytibpoeaableoeaa.Nv
open Go

/-- comitia/comitialaw03.DiskKeeps -/
def nf3 : NF := ⟨126, [.tmp 6],
 (.seq
 (.region [
  ⟨some 6, none, .mv (.c (.bool false))⟩] none)
 (.seq
  (.region [
   ⟨some 15, none, .call 9 []⟩,
   ⟨some 7, none, .mv (.t 15)⟩] none)
  (.seq
   (.seq
    (.region [
     ⟨some 16, none, .mv (.t 7)⟩,
     ⟨some 17, none, .un .not (.t 16)⟩] none)
    (.cond (.t 17)
     (.seq
      (.region [
       ⟨some 6, none, .mv (.c (.bool false))⟩] none)
      .ret)
     .skip))
   (.seq
    (.region [
     ⟨some 19, none, .call 10 [(.c (.int .i64 1048576))]⟩,
     ⟨some 18, none, .mv (.t 19)⟩,
     ⟨some 20, none, .ext (.t 18) 0⟩,
     ⟨some 21, none, .ext (.t 18) 1⟩,
     ⟨some 8, none, .mv (.t 20)⟩,
     ⟨some 9, none, .mv (.t 21)⟩] none)
    (.seq
     (.seq
      (.region [
       ⟨some 22, none, .mv (.t 8)⟩,
       ⟨some 23, none, .eq .ptr false (.t 22) (.c (.nilp))⟩,
       ⟨some 24, none, .mv (.t 23)⟩,
       ⟨some 25, some (24, false), .mv (.t 9)⟩,
       ⟨some 26, some (24, false), .bin .neq (.t 25) (.c (.int .i64 0))⟩,
       ⟨some 27, none, .pick (.t 24) (.c (.bool true)) (.t 26)⟩] none)
      (.cond (.t 27)
       (.seq
        (.region [
         ⟨some 6, none, .mv (.c (.bool false))⟩] none)
        .ret)
       .skip))
     (.seq
      (.region [
       ⟨some 10, none, .mv (.c (.str ByteArray.empty))⟩] none)
      (.seq
       (.region [
        ⟨some 11, none, .mv (.c (.str ByteArray.empty))⟩] none)
       (.seq
        (.seq
         (.region [
          ⟨some 12, none, .mv (.c (.int .i64 0))⟩] none)
         (.block 0 (.loop (.seq
            (.seq
             (.region [
              ⟨some 28, none, .mv (.t 12)⟩,
              ⟨some 29, none, .mv (.t 0)⟩,
              ⟨some 30, none, .len .slc (.t 29)⟩,
              ⟨some 31, none, .bin .lss (.t 28) (.t 30)⟩,
              ⟨some 32, none, .mv (.t 31)⟩,
              ⟨some 33, some (32, true), .mv (.t 12)⟩,
              ⟨some 34, some (32, true), .bin .lss (.t 33) (.c (.int .i64 20))⟩,
              ⟨some 35, none, .pick (.t 32) (.t 34) (.c (.bool false))⟩] none)
             (.cond (.t 35)
              .skip
              (.exit 0)))
            (.seq
             (.block 1 (.seq
               (.region [
                ⟨some 38, none, .mv (.t 0)⟩,
                ⟨some 39, none, .mv (.t 12)⟩,
                ⟨some 40, none, .iaddr (.slc 1) (.t 38) (.t 39)⟩,
                ⟨some 41, none, .load false 1 (.t 40)⟩,
                ⟨some 42, none, .mv (.t 0)⟩,
                ⟨some 43, none, .mv (.t 12)⟩,
                ⟨some 44, none, .iaddr (.slc 1) (.t 42) (.t 43)⟩,
                ⟨some 45, none, .load false 1 (.t 44)⟩,
                ⟨some 46, none, .len .str (.t 45)⟩,
                ⟨some 47, none, .mm false [(.t 46), (.c (.int .i64 100))]⟩,
                ⟨some 48, none, .slice .str (.t 41) none (some (.t 47)) none⟩,
                ⟨some 13, none, .mv (.t 48)⟩] (some (10, [0, 0, 3, 7, 0, 0, 48, 112, 240, 496, 1023, 2047], 0)))
               (.seq
                (.seq
                 (.region [
                  ⟨some 49, none, .mv (.t 8)⟩,
                  ⟨some 50, none, .mv (.t 13)⟩,
                  ⟨some 51, none, .call 11 [(.t 49), (.t 50)]⟩,
                  ⟨some 52, none, .bin .neq (.t 51) (.c (.int .i64 0))⟩] none)
                 (.cond (.t 52)
                  (.seq
                   (.region [
                    ⟨some 6, none, .mv (.c (.bool false))⟩] none)
                   .ret)
                  .skip))
                (.seq
                 (.region [
                  ⟨some 53, none, .mv (.t 11)⟩,
                  ⟨some 54, none, .mv (.t 13)⟩,
                  ⟨some 55, none, .bin .add (.t 53) (.t 54)⟩,
                  ⟨some 11, none, .mv (.t 55)⟩] none)
                 (.seq
                  (.region [
                   ⟨some 56, none, .mv (.t 1)⟩,
                   ⟨some 57, none, .mv (.t 12)⟩,
                   ⟨some 58, none, .bin .shr (.t 56) (.t 57)⟩,
                   ⟨some 59, none, .bin .rem (.t 58) (.c (.int .u32 2))⟩,
                   ⟨some 60, none, .bin .eql (.t 59) (.c (.int .u32 1))⟩] none)
                  (.cond (.t 60)
                   (.seq
                    (.region [
                     ⟨some 61, none, .mv (.t 8)⟩,
                     ⟨some 62, none, .call 12 [(.t 61)]⟩] none)
                    (.region [
                     ⟨some 63, none, .mv (.t 11)⟩,
                     ⟨some 10, none, .mv (.t 63)⟩] none))
                   .skip))))))
             (.region [
              ⟨some 36, none, .mv (.t 12)⟩,
              ⟨some 37, none, .bin .add (.t 36) (.c (.int .i64 1))⟩,
              ⟨some 12, none, .mv (.t 37)⟩] none))))))
        (.seq
         (.seq
          (.region [
           ⟨some 64, none, .mv (.t 8)⟩,
           ⟨some 65, none, .call 13 [(.t 64)]⟩,
           ⟨some 66, none, .mv (.t 11)⟩,
           ⟨some 67, none, .bin .neq (.t 65) (.t 66)⟩,
           ⟨some 68, none, .mv (.t 67)⟩,
           ⟨some 69, some (68, false), .mv (.t 8)⟩,
           ⟨some 70, some (68, false), .call 14 [(.t 69)]⟩,
           ⟨some 71, some (68, false), .mv (.t 10)⟩,
           ⟨some 72, some (68, false), .len .str (.t 71)⟩,
           ⟨some 73, some (68, false), .bin .neq (.t 70) (.t 72)⟩,
           ⟨some 74, none, .pick (.t 68) (.c (.bool true)) (.t 73)⟩] none)
          (.cond (.t 74)
           (.seq
            (.region [
             ⟨some 6, none, .mv (.c (.bool false))⟩] none)
            .ret)
           .skip))
         (.seq
          (.region [
           ⟨some 75, none, .mv (.t 8)⟩,
           ⟨some 76, none, .mv (.t 2)⟩,
           ⟨some 77, none, .call 15 [(.t 75), (.t 76)]⟩] none)
          (.seq
           (.region [
            ⟨some 78, none, .mv (.t 8)⟩,
            ⟨some 79, none, .call 13 [(.t 78)]⟩,
            ⟨some 14, none, .mv (.t 79)⟩] none)
           (.seq
            (.region [
             ⟨some 80, none, .mv (.t 7)⟩,
             ⟨some 81, none, .mv (.t 80)⟩,
             ⟨some 82, some (81, true), .mv (.t 14)⟩,
             ⟨some 83, some (81, true), .len .str (.t 82)⟩,
             ⟨some 84, some (81, true), .mv (.t 10)⟩,
             ⟨some 85, some (81, true), .len .str (.t 84)⟩,
             ⟨some 86, some (81, true), .bin .geq (.t 83) (.t 85)⟩,
             ⟨some 87, none, .pick (.t 81) (.t 86) (.c (.bool false))⟩,
             ⟨some 88, none, .mv (.t 87)⟩,
             ⟨some 89, some (88, true), .mv (.t 14)⟩,
             ⟨some 90, some (88, true), .len .str (.t 89)⟩,
             ⟨some 91, some (88, true), .mv (.t 11)⟩,
             ⟨some 92, some (88, true), .len .str (.t 91)⟩,
             ⟨some 93, some (88, true), .bin .leq (.t 90) (.t 92)⟩,
             ⟨some 94, none, .pick (.t 88) (.t 93) (.c (.bool false))⟩,
             ⟨some 95, none, .mv (.t 94)⟩,
             ⟨some 96, some (95, true), .mv (.t 11)⟩,
             ⟨some 97, some (95, true), .mv (.t 14)⟩,
             ⟨some 98, some (95, true), .len .str (.t 97)⟩,
             ⟨some 99, some (95, true), .slice .str (.t 96) none (some (.t 98)) none⟩,
             ⟨some 100, some (95, true), .mv (.t 14)⟩,
             ⟨some 101, some (95, true), .bin .eql (.t 99) (.t 100)⟩,
             ⟨some 102, none, .pick (.t 95) (.t 101) (.c (.bool false))⟩,
             ⟨some 103, none, .mv (.t 102)⟩,
             ⟨some 104, some (103, true), .mv (.t 14)⟩,
             ⟨some 105, some (103, true), .len .str (.t 104)⟩,
             ⟨some 106, some (103, true), .mv (.t 10)⟩,
             ⟨some 107, some (103, true), .len .str (.t 106)⟩,
             ⟨some 108, some (103, true), .mv (.t 2)⟩,
             ⟨some 109, some (103, true), .mv (.t 11)⟩,
             ⟨some 110, some (103, true), .len .str (.t 109)⟩,
             ⟨some 111, some (103, true), .mv (.t 10)⟩,
             ⟨some 112, some (103, true), .len .str (.t 111)⟩,
             ⟨some 113, some (103, true), .bin .sub (.t 110) (.t 112)⟩,
             ⟨some 114, some (103, true), .mm false [(.t 108), (.t 113)]⟩,
             ⟨some 115, some (103, true), .mm true [(.t 114), (.c (.int .i64 0))]⟩,
             ⟨some 116, some (103, true), .bin .add (.t 107) (.t 115)⟩,
             ⟨some 117, some (103, true), .bin .eql (.t 105) (.t 116)⟩,
             ⟨some 118, none, .pick (.t 103) (.t 117) (.c (.bool false))⟩,
             ⟨some 119, none, .mv (.t 118)⟩,
             ⟨some 120, some (119, true), .mv (.t 8)⟩,
             ⟨some 121, some (119, true), .call 14 [(.t 120)]⟩,
             ⟨some 122, some (119, true), .mv (.t 14)⟩,
             ⟨some 123, some (119, true), .len .str (.t 122)⟩,
             ⟨some 124, some (119, true), .bin .eql (.t 121) (.t 123)⟩,
             ⟨some 125, none, .pick (.t 119) (.t 124) (.c (.bool false))⟩,
             ⟨some 6, none, .mv (.t 125)⟩] none)
            .ret))))))))))))⟩
theorem nf3_ok : compF Try.prog 3 = some nf3 := by kernel_rfl

/-- comitia/comitialaw03.DiskFull -/
def nf4 : NF := ⟨110, [.tmp 6],
 (.seq
 (.region [
  ⟨some 6, none, .mv (.c (.bool false))⟩] none)
 (.seq
  (.region [
   ⟨some 18, none, .call 9 []⟩,
   ⟨some 7, none, .mv (.t 18)⟩] none)
  (.seq
   (.seq
    (.region [
     ⟨some 19, none, .mv (.t 7)⟩,
     ⟨some 20, none, .un .not (.t 19)⟩] none)
    (.cond (.t 20)
     (.seq
      (.region [
       ⟨some 6, none, .mv (.c (.bool false))⟩] none)
      .ret)
     .skip))
   (.seq
    (.region [
     ⟨some 21, none, .mv (.t 0)⟩,
     ⟨some 22, none, .i2i .i64 (.t 21)⟩,
     ⟨some 23, none, .bin .add (.c (.int .i64 1)) (.t 22)⟩,
     ⟨some 8, none, .mv (.t 23)⟩] none)
    (.seq
     (.region [
      ⟨some 25, none, .mv (.t 8)⟩,
      ⟨some 26, none, .call 10 [(.t 25)]⟩,
      ⟨some 24, none, .mv (.t 26)⟩,
      ⟨some 27, none, .ext (.t 24) 0⟩,
      ⟨some 28, none, .ext (.t 24) 1⟩,
      ⟨some 9, none, .mv (.t 27)⟩,
      ⟨some 10, none, .mv (.t 28)⟩] none)
     (.seq
      (.seq
       (.region [
        ⟨some 29, none, .mv (.t 9)⟩,
        ⟨some 30, none, .eq .ptr false (.t 29) (.c (.nilp))⟩,
        ⟨some 31, none, .mv (.t 30)⟩,
        ⟨some 32, some (31, false), .mv (.t 10)⟩,
        ⟨some 33, some (31, false), .bin .neq (.t 32) (.c (.int .i64 0))⟩,
        ⟨some 34, none, .pick (.t 31) (.c (.bool true)) (.t 33)⟩] none)
       (.cond (.t 34)
        (.seq
         (.region [
          ⟨some 6, none, .mv (.c (.bool false))⟩] none)
         .ret)
        .skip))
      (.seq
       (.region [
        ⟨some 35, none, .mv (.t 1)⟩,
        ⟨some 36, none, .i2i .i64 (.t 35)⟩,
        ⟨some 37, none, .mkslc 1 1 [.int .u8 0] (.t 36) (.t 36)⟩,
        ⟨some 38, none, .b2s (.t 37)⟩,
        ⟨some 11, none, .mv (.t 38)⟩] none)
       (.seq
        (.region [
         ⟨some 39, none, .mv (.t 9)⟩,
         ⟨some 40, none, .mv (.t 11)⟩,
         ⟨some 41, none, .call 11 [(.t 39), (.t 40)]⟩,
         ⟨some 12, none, .mv (.t 41)⟩] none)
        (.seq
         (.region [
          ⟨some 42, none, .mv (.t 11)⟩,
          ⟨some 43, none, .len .str (.t 42)⟩,
          ⟨some 44, none, .mv (.t 8)⟩,
          ⟨some 45, none, .bin .leq (.t 43) (.t 44)⟩,
          ⟨some 13, none, .mv (.t 45)⟩] none)
         (.seq
          (.region [
           ⟨some 46, none, .mv (.t 9)⟩,
           ⟨some 47, none, .call 13 [(.t 46)]⟩,
           ⟨some 48, none, .len .str (.t 47)⟩,
           ⟨some 14, none, .mv (.t 48)⟩] none)
          (.seq
           (.region [
            ⟨some 49, none, .mv (.t 9)⟩,
            ⟨some 50, none, .mv (.t 2)⟩,
            ⟨some 51, none, .i2i .i64 (.t 50)⟩,
            ⟨some 52, none, .call 16 [(.t 49), (.t 51)]⟩,
            ⟨some 15, none, .mv (.t 52)⟩] none)
           (.seq
            (.region [
             ⟨some 53, none, .mv (.t 9)⟩,
             ⟨some 54, none, .mv (.t 11)⟩,
             ⟨some 55, none, .call 11 [(.t 53), (.t 54)]⟩,
             ⟨some 16, none, .mv (.t 55)⟩] none)
            (.seq
             (.region [
              ⟨some 56, none, .mv (.t 14)⟩,
              ⟨some 57, none, .mv (.t 11)⟩,
              ⟨some 58, none, .len .str (.t 57)⟩,
              ⟨some 59, none, .bin .add (.t 56) (.t 58)⟩,
              ⟨some 60, none, .mv (.t 8)⟩,
              ⟨some 61, none, .mv (.t 2)⟩,
              ⟨some 62, none, .i2i .i64 (.t 61)⟩,
              ⟨some 63, none, .bin .add (.t 60) (.t 62)⟩,
              ⟨some 64, none, .bin .leq (.t 59) (.t 63)⟩,
              ⟨some 17, none, .mv (.t 64)⟩] none)
             (.seq
              (.region [
               ⟨some 65, none, .mv (.t 7)⟩,
               ⟨some 66, none, .mv (.t 65)⟩,
               ⟨some 67, some (66, true), .mv (.t 12)⟩,
               ⟨some 68, some (66, true), .bin .eql (.t 67) (.c (.int .i64 0))⟩,
               ⟨some 69, some (66, true), .mv (.t 13)⟩,
               ⟨some 70, some (66, true), .eq (.key ⟨false, [.bool]⟩) false (.t 68) (.t 69)⟩,
               ⟨some 71, none, .pick (.t 66) (.t 70) (.c (.bool false))⟩,
               ⟨some 72, none, .mv (.t 71)⟩,
               ⟨some 73, some (72, true), .mv (.t 13)⟩,
               ⟨some 74, some (72, true), .mv (.t 73)⟩,
               ⟨some 75, some (74, false), .mv (.t 12)⟩,
               ⟨some 76, some (74, false), .bin .eql (.t 75) (.c (.int .i64 4))⟩,
               ⟨some 77, some (72, true), .pick (.t 74) (.c (.bool true)) (.t 76)⟩,
               ⟨some 78, none, .pick (.t 72) (.t 77) (.c (.bool false))⟩,
               ⟨some 79, none, .mv (.t 78)⟩,
               ⟨some 80, some (79, true), .mv (.t 14)⟩,
               ⟨some 81, some (79, true), .mv (.t 11)⟩,
               ⟨some 82, some (79, true), .len .str (.t 81)⟩,
               ⟨some 83, some (79, true), .bin .eql (.t 80) (.t 82)⟩,
               ⟨some 84, some (79, true), .mv (.t 13)⟩,
               ⟨some 85, some (79, true), .mv (.t 84)⟩,
               ⟨some 86, some (85, false), .mv (.t 11)⟩,
               ⟨some 87, some (85, false), .bin .eql (.t 86) (.c (.str ByteArray.empty))⟩,
               ⟨some 88, some (79, true), .pick (.t 85) (.c (.bool true)) (.t 87)⟩,
               ⟨some 89, some (79, true), .eq (.key ⟨false, [.bool]⟩) false (.t 83) (.t 88)⟩,
               ⟨some 90, none, .pick (.t 79) (.t 89) (.c (.bool false))⟩,
               ⟨some 91, none, .mv (.t 90)⟩,
               ⟨some 92, some (91, true), .mv (.t 15)⟩,
               ⟨some 93, some (91, true), .bin .eql (.t 92) (.c (.int .i64 0))⟩,
               ⟨some 94, none, .pick (.t 91) (.t 93) (.c (.bool false))⟩,
               ⟨some 95, none, .mv (.t 94)⟩,
               ⟨some 96, some (95, true), .mv (.t 16)⟩,
               ⟨some 97, some (95, true), .bin .eql (.t 96) (.c (.int .i64 0))⟩,
               ⟨some 98, some (95, true), .mv (.t 17)⟩,
               ⟨some 99, some (95, true), .eq (.key ⟨false, [.bool]⟩) false (.t 97) (.t 98)⟩,
               ⟨some 100, none, .pick (.t 95) (.t 99) (.c (.bool false))⟩,
               ⟨some 101, none, .mv (.t 100)⟩,
               ⟨some 102, some (101, true), .mv (.t 9)⟩,
               ⟨some 103, some (101, true), .call 17 [(.t 102)]⟩,
               ⟨some 104, some (101, true), .mv (.t 8)⟩,
               ⟨some 105, some (101, true), .mv (.t 2)⟩,
               ⟨some 106, some (101, true), .i2i .i64 (.t 105)⟩,
               ⟨some 107, some (101, true), .bin .add (.t 104) (.t 106)⟩,
               ⟨some 108, some (101, true), .bin .eql (.t 103) (.t 107)⟩,
               ⟨some 109, none, .pick (.t 101) (.t 108) (.c (.bool false))⟩,
               ⟨some 6, none, .mv (.t 109)⟩] none)
              .ret))))))))))))))⟩
theorem nf4_ok : compF Try.prog 4 = some nf4 := by kernel_rfl

/-- comitia/comitialaw03.DiskCuts -/
def nf5 : NF := ⟨81, [.tmp 6],
 (.seq
 (.region [
  ⟨some 6, none, .mv (.c (.bool false))⟩] none)
 (.seq
  (.region [
   ⟨some 11, none, .call 9 []⟩,
   ⟨some 7, none, .mv (.t 11)⟩] none)
  (.seq
   (.seq
    (.region [
     ⟨some 12, none, .mv (.t 7)⟩,
     ⟨some 13, none, .un .not (.t 12)⟩] none)
    (.cond (.t 13)
     (.seq
      (.region [
       ⟨some 6, none, .mv (.c (.bool false))⟩] none)
      .ret)
     .skip))
   (.seq
    (.region [
     ⟨some 15, none, .call 10 [(.c (.int .i64 1048576))]⟩,
     ⟨some 14, none, .mv (.t 15)⟩,
     ⟨some 16, none, .ext (.t 14) 0⟩,
     ⟨some 17, none, .ext (.t 14) 1⟩,
     ⟨some 8, none, .mv (.t 16)⟩,
     ⟨some 9, none, .mv (.t 17)⟩] none)
    (.seq
     (.seq
      (.region [
       ⟨some 18, none, .mv (.t 8)⟩,
       ⟨some 19, none, .eq .ptr false (.t 18) (.c (.nilp))⟩,
       ⟨some 20, none, .mv (.t 19)⟩,
       ⟨some 21, some (20, false), .mv (.t 9)⟩,
       ⟨some 22, some (20, false), .bin .neq (.t 21) (.c (.int .i64 0))⟩,
       ⟨some 23, none, .pick (.t 20) (.c (.bool true)) (.t 22)⟩] none)
      (.cond (.t 23)
       (.seq
        (.region [
         ⟨some 6, none, .mv (.c (.bool false))⟩] none)
        .ret)
       .skip))
     (.seq
      (.region [
       ⟨some 24, none, .mv (.t 0)⟩,
       ⟨some 25, none, .mv (.t 0)⟩,
       ⟨some 26, none, .len .str (.t 25)⟩,
       ⟨some 27, none, .mm false [(.t 26), (.c (.int .i64 300))]⟩,
       ⟨some 28, none, .slice .str (.t 24) none (some (.t 27)) none⟩,
       ⟨some 0, none, .mv (.t 28)⟩] none)
      (.seq
       (.seq
        (.region [
         ⟨some 29, none, .mv (.t 2)⟩] none)
        (.cond (.t 29)
         (.region [
          ⟨some 30, none, .mv (.t 1)⟩,
          ⟨some 31, none, .bin .rem (.t 30) (.c (.int .i64 350))⟩,
          ⟨some 1, none, .mv (.t 31)⟩] none)
         .skip))
       (.seq
        (.region [
         ⟨some 32, none, .mv (.t 8)⟩,
         ⟨some 33, none, .mv (.t 0)⟩,
         ⟨some 34, none, .call 11 [(.t 32), (.t 33)]⟩] none)
        (.seq
         (.region [
          ⟨some 35, none, .mv (.t 8)⟩,
          ⟨some 36, none, .mv (.t 1)⟩,
          ⟨some 37, none, .call 18 [(.t 35), (.t 36)]⟩,
          ⟨some 10, none, .mv (.t 37)⟩] none)
         (.seq
          (.seq
           (.region [
            ⟨some 38, none, .mv (.t 1)⟩,
            ⟨some 39, none, .bin .lss (.t 38) (.c (.int .i64 0))⟩,
            ⟨some 40, none, .mv (.t 39)⟩,
            ⟨some 41, some (40, false), .mv (.t 1)⟩,
            ⟨some 42, some (40, false), .mv (.t 0)⟩,
            ⟨some 43, some (40, false), .len .str (.t 42)⟩,
            ⟨some 44, some (40, false), .bin .gtr (.t 41) (.t 43)⟩,
            ⟨some 45, none, .pick (.t 40) (.c (.bool true)) (.t 44)⟩] none)
           (.cond (.t 45)
            (.seq
             (.region [
              ⟨some 46, none, .mv (.t 7)⟩,
              ⟨some 47, none, .mv (.t 46)⟩,
              ⟨some 48, some (47, true), .mv (.t 10)⟩,
              ⟨some 49, some (47, true), .bin .eql (.t 48) (.c (.int .i64 1))⟩,
              ⟨some 50, none, .pick (.t 47) (.t 49) (.c (.bool false))⟩,
              ⟨some 51, none, .mv (.t 50)⟩,
              ⟨some 52, some (51, true), .mv (.t 8)⟩,
              ⟨some 53, some (51, true), .call 13 [(.t 52)]⟩,
              ⟨some 54, some (51, true), .mv (.t 0)⟩,
              ⟨some 55, some (51, true), .bin .eql (.t 53) (.t 54)⟩,
              ⟨some 56, none, .pick (.t 51) (.t 55) (.c (.bool false))⟩,
              ⟨some 57, none, .mv (.t 56)⟩,
              ⟨some 58, some (57, true), .mv (.t 8)⟩,
              ⟨some 59, some (57, true), .call 14 [(.t 58)]⟩,
              ⟨some 60, some (57, true), .bin .eql (.t 59) (.c (.int .i64 0))⟩,
              ⟨some 61, none, .pick (.t 57) (.t 60) (.c (.bool false))⟩,
              ⟨some 6, none, .mv (.t 61)⟩] none)
             .ret)
            .skip))
          (.seq
           (.region [
            ⟨some 62, none, .mv (.t 7)⟩,
            ⟨some 63, none, .mv (.t 62)⟩,
            ⟨some 64, some (63, true), .mv (.t 10)⟩,
            ⟨some 65, some (63, true), .bin .eql (.t 64) (.c (.int .i64 0))⟩,
            ⟨some 66, none, .pick (.t 63) (.t 65) (.c (.bool false))⟩,
            ⟨some 67, none, .mv (.t 66)⟩,
            ⟨some 68, some (67, true), .mv (.t 8)⟩,
            ⟨some 69, some (67, true), .call 13 [(.t 68)]⟩,
            ⟨some 70, some (67, true), .mv (.t 0)⟩,
            ⟨some 71, some (67, true), .mv (.t 1)⟩,
            ⟨some 72, some (67, true), .slice .str (.t 70) none (some (.t 71)) none⟩,
            ⟨some 73, some (67, true), .bin .eql (.t 69) (.t 72)⟩,
            ⟨some 74, none, .pick (.t 67) (.t 73) (.c (.bool false))⟩,
            ⟨some 75, none, .mv (.t 74)⟩,
            ⟨some 76, some (75, true), .mv (.t 8)⟩,
            ⟨some 77, some (75, true), .call 14 [(.t 76)]⟩,
            ⟨some 78, some (75, true), .mv (.t 1)⟩,
            ⟨some 79, some (75, true), .bin .eql (.t 77) (.t 78)⟩,
            ⟨some 80, none, .pick (.t 75) (.t 79) (.c (.bool false))⟩,
            ⟨some 6, none, .mv (.t 80)⟩] (some (17, [0, 1, 3, 7, 15, 31, 63, 127, 63, 63, 831, 2047, 4095, 8191, 16383, 32767, 16383, 131071, 262143, 524287], 2147516416)))
           .ret)))))))))))⟩
theorem nf5_ok : compF Try.prog 5 = some nf5 := by kernel_rfl

/-- comitia/comitialaw03.DiskWrong -/
def nf6 : NF := ⟨80, [.tmp 4],
 (.seq
 (.region [
  ⟨some 4, none, .mv (.c (.bool false))⟩] none)
 (.seq
  (.region [
   ⟨some 12, none, .call 9 []⟩,
   ⟨some 5, none, .mv (.t 12)⟩] none)
  (.seq
   (.seq
    (.region [
     ⟨some 13, none, .mv (.t 5)⟩,
     ⟨some 14, none, .un .not (.t 13)⟩] none)
    (.cond (.t 14)
     (.seq
      (.region [
       ⟨some 4, none, .mv (.c (.bool false))⟩] none)
      .ret)
     .skip))
   (.seq
    (.region [
     ⟨some 16, none, .mv (.t 0)⟩,
     ⟨some 17, none, .call 10 [(.t 16)]⟩,
     ⟨some 15, none, .mv (.t 17)⟩,
     ⟨some 18, none, .ext (.t 15) 0⟩,
     ⟨some 19, none, .ext (.t 15) 1⟩,
     ⟨some 6, none, .mv (.t 18)⟩,
     ⟨some 7, none, .mv (.t 19)⟩] none)
    (.seq
     (.region [
      ⟨some 21, none, .call 10 [(.c (.int .i64 10))]⟩,
      ⟨some 20, none, .mv (.t 21)⟩,
      ⟨some 22, none, .ext (.t 20) 0⟩,
      ⟨some 23, none, .ext (.t 20) 1⟩,
      ⟨some 8, none, .mv (.t 22)⟩,
      ⟨some 9, none, .mv (.t 23)⟩] none)
     (.seq
      (.seq
       (.region [
        ⟨some 24, none, .mv (.t 8)⟩,
        ⟨some 25, none, .eq .ptr false (.t 24) (.c (.nilp))⟩] none)
       (.cond (.t 25)
        (.seq
         (.region [
          ⟨some 4, none, .mv (.c (.bool false))⟩] none)
         .ret)
        .skip))
      (.seq
       (.region [
        ⟨some 26, none, .mv (.t 8)⟩,
        ⟨some 27, none, .mv (.t 1)⟩,
        ⟨some 28, none, .call 16 [(.t 26), (.t 27)]⟩,
        ⟨some 10, none, .mv (.t 28)⟩] none)
       (.seq
        (.region [
         ⟨some 29, none, .mv (.t 1)⟩,
         ⟨some 30, none, .bin .geq (.t 29) (.c (.int .i64 0))⟩,
         ⟨some 31, none, .mv (.t 30)⟩,
         ⟨some 32, some (31, true), .mv (.t 1)⟩,
         ⟨some 33, some (31, true), .bin .leq (.t 32) (.c (.int .i64 16777206))⟩,
         ⟨some 34, none, .pick (.t 31) (.t 33) (.c (.bool false))⟩,
         ⟨some 11, none, .mv (.t 34)⟩] none)
        (.seq
         (.region [
          ⟨some 35, none, .mv (.t 5)⟩,
          ⟨some 36, none, .mv (.t 35)⟩,
          ⟨some 37, some (36, true), .mv (.t 7)⟩,
          ⟨some 38, some (36, true), .bin .eql (.t 37) (.c (.int .i64 0))⟩,
          ⟨some 39, some (36, true), .mv (.t 0)⟩,
          ⟨some 40, some (36, true), .bin .geq (.t 39) (.c (.int .i64 1))⟩,
          ⟨some 41, some (36, true), .mv (.t 40)⟩,
          ⟨some 42, some (41, true), .mv (.t 0)⟩,
          ⟨some 43, some (41, true), .bin .leq (.t 42) (.c (.int .i64 16777216))⟩,
          ⟨some 44, some (36, true), .pick (.t 41) (.t 43) (.c (.bool false))⟩,
          ⟨some 45, some (36, true), .eq (.key ⟨false, [.bool]⟩) false (.t 38) (.t 44)⟩,
          ⟨some 46, none, .pick (.t 36) (.t 45) (.c (.bool false))⟩,
          ⟨some 47, none, .mv (.t 46)⟩,
          ⟨some 48, some (47, true), .mv (.t 9)⟩,
          ⟨some 49, some (47, true), .bin .eql (.t 48) (.c (.int .i64 0))⟩,
          ⟨some 50, none, .pick (.t 47) (.t 49) (.c (.bool false))⟩,
          ⟨some 51, none, .mv (.t 50)⟩,
          ⟨some 52, some (51, true), .mv (.t 10)⟩,
          ⟨some 53, some (51, true), .bin .eql (.t 52) (.c (.int .i64 0))⟩,
          ⟨some 54, some (51, true), .mv (.t 11)⟩,
          ⟨some 55, some (51, true), .eq (.key ⟨false, [.bool]⟩) false (.t 53) (.t 54)⟩,
          ⟨some 56, none, .pick (.t 51) (.t 55) (.c (.bool false))⟩,
          ⟨some 57, none, .mv (.t 56)⟩,
          ⟨some 58, some (57, true), .mv (.t 11)⟩,
          ⟨some 59, some (57, true), .mv (.t 58)⟩,
          ⟨some 60, some (59, false), .mv (.t 10)⟩,
          ⟨some 61, some (59, false), .bin .eql (.t 60) (.c (.int .i64 1))⟩,
          ⟨some 62, some (59, false), .mv (.t 61)⟩,
          ⟨some 63, some (62, true), .mv (.t 8)⟩,
          ⟨some 64, some (62, true), .call 17 [(.t 63)]⟩,
          ⟨some 65, some (62, true), .bin .eql (.t 64) (.c (.int .i64 10))⟩,
          ⟨some 66, some (59, false), .pick (.t 62) (.t 65) (.c (.bool false))⟩,
          ⟨some 67, some (57, true), .pick (.t 59) (.c (.bool true)) (.t 66)⟩,
          ⟨some 68, none, .pick (.t 57) (.t 67) (.c (.bool false))⟩,
          ⟨some 69, none, .mv (.t 68)⟩,
          ⟨some 70, some (69, true), .mv (.t 11)⟩,
          ⟨some 71, some (69, true), .un .not (.t 70)⟩,
          ⟨some 72, some (69, true), .mv (.t 71)⟩,
          ⟨some 73, some (72, false), .mv (.t 8)⟩,
          ⟨some 74, some (72, false), .call 17 [(.t 73)]⟩,
          ⟨some 75, some (72, false), .mv (.t 1)⟩,
          ⟨some 76, some (72, false), .bin .add (.c (.int .i64 10)) (.t 75)⟩,
          ⟨some 77, some (72, false), .bin .eql (.t 74) (.t 76)⟩,
          ⟨some 78, some (69, true), .pick (.t 72) (.c (.bool true)) (.t 77)⟩,
          ⟨some 79, none, .pick (.t 69) (.t 78) (.c (.bool false))⟩,
          ⟨some 4, none, .mv (.t 79)⟩] none)
         .ret)))))))))⟩
theorem nf6_ok : compF Try.prog 6 = some nf6 := by kernel_rfl

/-- comitia/comitialaw03.DiskPlays -/
def nf7 : NF := ⟨152, [.tmp 6],
 (.seq
 (.region [
  ⟨some 6, none, .mv (.c (.bool false))⟩] none)
 (.seq
  (.region [
   ⟨some 15, none, .call 9 []⟩,
   ⟨some 7, none, .mv (.t 15)⟩] none)
  (.seq
   (.seq
    (.region [
     ⟨some 16, none, .mv (.t 7)⟩,
     ⟨some 17, none, .un .not (.t 16)⟩] none)
    (.cond (.t 17)
     (.seq
      (.region [
       ⟨some 6, none, .mv (.c (.bool false))⟩] none)
      .ret)
     .skip))
   (.seq
    (.seq
     (.region [
      ⟨some 18, none, .mv (.t 1)⟩] none)
     (.cond (.t 18)
      (.region [
       ⟨some 19, none, .mv (.t 0)⟩,
       ⟨some 20, none, .i2i .u64 (.t 19)⟩,
       ⟨some 21, none, .bin .rem (.t 20) (.c (.int .u64 60))⟩,
       ⟨some 22, none, .i2i .i64 (.t 21)⟩,
       ⟨some 23, none, .bin .add (.c (.int .i64 1)) (.t 22)⟩,
       ⟨some 0, none, .mv (.t 23)⟩] none)
      .skip))
    (.seq
     (.region [
      ⟨some 25, none, .mv (.t 0)⟩,
      ⟨some 26, none, .call 10 [(.t 25)]⟩,
      ⟨some 24, none, .mv (.t 26)⟩,
      ⟨some 27, none, .ext (.t 24) 0⟩,
      ⟨some 28, none, .ext (.t 24) 1⟩,
      ⟨some 8, none, .mv (.t 27)⟩,
      ⟨some 9, none, .mv (.t 28)⟩] none)
     (.seq
      (.region [
       ⟨some 29, none, .mv (.t 0)⟩,
       ⟨some 30, none, .call 19 [(.t 29)]⟩,
       ⟨some 10, none, .mv (.t 30)⟩] none)
      (.seq
       (.seq
        (.region [
         ⟨some 31, none, .mv (.t 10)⟩,
         ⟨some 32, none, .eq .ptr false (.t 31) (.c (.nilp))⟩] none)
        (.cond (.t 32)
         (.seq
          (.region [
           ⟨some 33, none, .mv (.t 7)⟩,
           ⟨some 34, none, .mv (.t 33)⟩,
           ⟨some 35, some (34, true), .mv (.t 8)⟩,
           ⟨some 36, some (34, true), .eq .ptr false (.t 35) (.c (.nilp))⟩,
           ⟨some 37, none, .pick (.t 34) (.t 36) (.c (.bool false))⟩,
           ⟨some 38, none, .mv (.t 37)⟩,
           ⟨some 39, some (38, true), .mv (.t 9)⟩,
           ⟨some 40, some (38, true), .bin .eql (.t 39) (.c (.int .i64 1))⟩,
           ⟨some 41, none, .pick (.t 38) (.t 40) (.c (.bool false))⟩,
           ⟨some 6, none, .mv (.t 41)⟩] none)
          .ret)
         .skip))
       (.seq
        (.seq
         (.region [
          ⟨some 42, none, .mv (.t 8)⟩,
          ⟨some 43, none, .eq .ptr false (.t 42) (.c (.nilp))⟩,
          ⟨some 44, none, .mv (.t 43)⟩,
          ⟨some 45, some (44, false), .mv (.t 9)⟩,
          ⟨some 46, some (44, false), .bin .neq (.t 45) (.c (.int .i64 0))⟩,
          ⟨some 47, none, .pick (.t 44) (.c (.bool true)) (.t 46)⟩] none)
         (.cond (.t 47)
          (.seq
           (.region [
            ⟨some 6, none, .mv (.c (.bool false))⟩] none)
           .ret)
          .skip))
        (.seq
         (.seq
          (.region [
           ⟨some 11, none, .mv (.c (.int .i64 0))⟩] none)
          (.block 0 (.loop (.seq
             (.seq
              (.region [
               ⟨some 48, none, .mv (.t 11)⟩,
               ⟨some 49, none, .mv (.t 2)⟩,
               ⟨some 50, none, .len .slc (.t 49)⟩,
               ⟨some 51, none, .bin .lss (.t 48) (.t 50)⟩,
               ⟨some 52, none, .mv (.t 51)⟩,
               ⟨some 53, some (52, true), .mv (.t 11)⟩,
               ⟨some 54, some (52, true), .bin .lss (.t 53) (.c (.int .i64 60))⟩,
               ⟨some 55, none, .pick (.t 52) (.t 54) (.c (.bool false))⟩] none)
              (.cond (.t 55)
               .skip
               (.exit 0)))
             (.seq
              (.block 1 (.seq
                (.region [
                 ⟨some 58, none, .mv (.t 2)⟩,
                 ⟨some 59, none, .mv (.t 11)⟩,
                 ⟨some 60, none, .iaddr (.slc 3) (.t 58) (.t 59)⟩,
                 ⟨some 61, none, .load true 3 (.t 60)⟩,
                 ⟨some 12, none, .new [.int .u8 0, .str ByteArray.empty, .int .i64 0]⟩,
                 ⟨none, none, .store 3 (.t 12) (.t 61)⟩] none)
                (.seq
                 (.region [
                  ⟨some 62, none, .faddr 2 (.t 12)⟩,
                  ⟨some 63, none, .load false 1 (.t 62)⟩,
                  ⟨some 13, none, .mv (.t 63)⟩] none)
                 (.seq
                  (.seq
                   (.region [
                    ⟨some 64, none, .mv (.t 13)⟩,
                    ⟨some 65, none, .bin .rem (.t 64) (.c (.int .i64 4))⟩,
                    ⟨some 66, none, .bin .gtr (.t 65) (.c (.int .i64 0))⟩] none)
                   (.cond (.t 66)
                    (.region [
                     ⟨some 67, none, .mv (.t 13)⟩,
                     ⟨some 68, none, .bin .rem (.t 67) (.c (.int .i64 40))⟩,
                     ⟨some 13, none, .mv (.t 68)⟩] none)
                    .skip))
                  (.seq
                   (.region [
                    ⟨some 14, none, .mv (.c (.bool true))⟩] none)
                   (.seq
                    (.seq
                     (.region [
                      ⟨some 69, none, .faddr 0 (.t 12)⟩,
                      ⟨some 70, none, .load false 1 (.t 69)⟩,
                      ⟨some 71, none, .bin .rem (.t 70) (.c (.int .u8 10))⟩] none)
                     (.block 2 (.seq
                       (.seq
                        (.region [
                         ⟨some 82, none, .bin .eql (.t 71) (.c (.int .u8 4))⟩,
                         ⟨some 81, none, .mv (.t 82)⟩] none)
                        (.cond (.t 81)
                         .skip
                         (.region [
                          ⟨some 83, none, .bin .eql (.t 71) (.c (.int .u8 5))⟩,
                          ⟨some 81, none, .mv (.t 83)⟩] none)))
                       (.cond (.t 81)
                        (.seq
                         (.region [
                          ⟨some 84, none, .mv (.t 8)⟩,
                          ⟨some 85, none, .call 12 [(.t 84)]⟩,
                          ⟨some 86, none, .bin .eql (.t 85) (.c (.int .i64 0))⟩,
                          ⟨some 14, none, .mv (.t 86)⟩] none)
                         (.region [
                          ⟨some 87, none, .mv (.t 10)⟩,
                          ⟨some 88, none, .call 20 [(.t 87)]⟩] none))
                        (.seq
                         (.region [
                          ⟨some 90, none, .bin .eql (.t 71) (.c (.int .u8 6))⟩,
                          ⟨some 89, none, .mv (.t 90)⟩] none)
                         (.cond (.t 89)
                          (.seq
                           (.region [
                            ⟨some 91, none, .mv (.t 8)⟩,
                            ⟨some 92, none, .mv (.t 13)⟩,
                            ⟨some 93, none, .call 15 [(.t 91), (.t 92)]⟩] none)
                           (.region [
                            ⟨some 94, none, .mv (.t 10)⟩,
                            ⟨some 95, none, .mv (.t 13)⟩,
                            ⟨some 96, none, .call 21 [(.t 94), (.t 95)]⟩] none))
                          (.seq
                           (.region [
                            ⟨some 98, none, .bin .eql (.t 71) (.c (.int .u8 7))⟩,
                            ⟨some 97, none, .mv (.t 98)⟩] none)
                           (.cond (.t 97)
                            (.region [
                             ⟨some 99, none, .mv (.t 8)⟩,
                             ⟨some 100, none, .mv (.t 13)⟩,
                             ⟨some 101, none, .call 18 [(.t 99), (.t 100)]⟩,
                             ⟨some 102, none, .mv (.t 10)⟩,
                             ⟨some 103, none, .mv (.t 13)⟩,
                             ⟨some 104, none, .call 22 [(.t 102), (.t 103)]⟩,
                             ⟨some 105, none, .bin .eql (.t 101) (.t 104)⟩,
                             ⟨some 14, none, .mv (.t 105)⟩] none)
                            (.seq
                             (.region [
                              ⟨some 107, none, .bin .eql (.t 71) (.c (.int .u8 8))⟩,
                              ⟨some 106, none, .mv (.t 107)⟩] none)
                             (.cond (.t 106)
                              (.region [
                               ⟨some 108, none, .mv (.t 8)⟩,
                               ⟨some 109, none, .mv (.t 13)⟩,
                               ⟨some 110, none, .call 16 [(.t 108), (.t 109)]⟩,
                               ⟨some 111, none, .mv (.t 10)⟩,
                               ⟨some 112, none, .mv (.t 13)⟩,
                               ⟨some 113, none, .call 23 [(.t 111), (.t 112)]⟩,
                               ⟨some 114, none, .bin .eql (.t 110) (.t 113)⟩,
                               ⟨some 14, none, .mv (.t 114)⟩] none)
                              (.seq
                               (.region [
                                ⟨some 116, none, .bin .eql (.t 71) (.c (.int .u8 9))⟩,
                                ⟨some 115, none, .mv (.t 116)⟩] none)
                               (.cond (.t 115)
                                (.seq
                                 (.region [
                                  ⟨some 117, none, .mv (.t 8)⟩,
                                  ⟨some 118, none, .call 24 [(.t 117)]⟩] none)
                                 (.region [
                                  ⟨some 119, none, .mv (.t 10)⟩,
                                  ⟨some 120, none, .nchk (.t 119)⟩,
                                  ⟨some 121, none, .faddr 3 (.t 120)⟩,
                                  ⟨none, none, .store 1 (.t 121) (.c (.bool true))⟩] none))
                                (.region [
                                 ⟨some 72, none, .mv (.t 8)⟩,
                                 ⟨some 73, none, .faddr 1 (.t 12)⟩,
                                 ⟨some 74, none, .load false 1 (.t 73)⟩,
                                 ⟨some 75, none, .call 11 [(.t 72), (.t 74)]⟩,
                                 ⟨some 76, none, .mv (.t 10)⟩,
                                 ⟨some 77, none, .faddr 1 (.t 12)⟩,
                                 ⟨some 78, none, .load false 1 (.t 77)⟩,
                                 ⟨some 79, none, .call 25 [(.t 76), (.t 78)]⟩,
                                 ⟨some 80, none, .bin .eql (.t 75) (.t 79)⟩,
                                 ⟨some 14, none, .mv (.t 80)⟩] (some (7, [0, 0, 2, 7, 0, 0, 32, 127, 255, 511], 128)))))))))))))))
                    (.seq
                     (.region [
                      ⟨some 122, none, .mv (.t 14)⟩,
                      ⟨some 123, none, .un .not (.t 122)⟩,
                      ⟨some 124, none, .mv (.t 123)⟩,
                      ⟨some 125, some (124, false), .mv (.t 8)⟩,
                      ⟨some 126, some (124, false), .call 13 [(.t 125)]⟩,
                      ⟨some 127, some (124, false), .mv (.t 10)⟩,
                      ⟨some 128, some (124, false), .nchk (.t 127)⟩,
                      ⟨some 129, some (124, false), .faddr 0 (.t 128)⟩,
                      ⟨some 130, some (124, false), .load false 1 (.t 129)⟩,
                      ⟨some 131, some (124, false), .bin .neq (.t 126) (.t 130)⟩,
                      ⟨some 132, none, .pick (.t 124) (.c (.bool true)) (.t 131)⟩,
                      ⟨some 133, none, .mv (.t 132)⟩,
                      ⟨some 134, some (133, false), .mv (.t 8)⟩,
                      ⟨some 135, some (133, false), .call 14 [(.t 134)]⟩,
                      ⟨some 136, some (133, false), .mv (.t 10)⟩,
                      ⟨some 137, some (133, false), .nchk (.t 136)⟩,
                      ⟨some 138, some (133, false), .faddr 1 (.t 137)⟩,
                      ⟨some 139, some (133, false), .load false 1 (.t 138)⟩,
                      ⟨some 140, some (133, false), .bin .neq (.t 135) (.t 139)⟩,
                      ⟨some 141, none, .pick (.t 133) (.c (.bool true)) (.t 140)⟩,
                      ⟨some 142, none, .mv (.t 141)⟩,
                      ⟨some 143, some (142, false), .mv (.t 8)⟩,
                      ⟨some 144, some (142, false), .call 17 [(.t 143)]⟩,
                      ⟨some 145, some (142, false), .mv (.t 10)⟩,
                      ⟨some 146, some (142, false), .nchk (.t 145)⟩,
                      ⟨some 147, some (142, false), .faddr 2 (.t 146)⟩,
                      ⟨some 148, some (142, false), .load false 1 (.t 147)⟩,
                      ⟨some 149, some (142, false), .bin .neq (.t 144) (.t 148)⟩,
                      ⟨some 150, none, .pick (.t 142) (.c (.bool true)) (.t 149)⟩] (some (27, [0, 1, 3, 7, 15, 7, 39, 103, 231, 511, 1023, 2047, 4095, 8191, 4095, 20479, 53247, 118783, 262143, 524287, 1048575, 2097151, 4194303, 2097151, 10485759, 27262975, 60817407, 134217727, 268435455], 35184506307072)))
                     (.cond (.t 150)
                      (.seq
                       (.region [
                        ⟨some 6, none, .mv (.c (.bool false))⟩] none)
                       .ret)
                      .skip))))))))
              (.region [
               ⟨some 56, none, .mv (.t 11)⟩,
               ⟨some 57, none, .bin .add (.t 56) (.c (.int .i64 1))⟩,
               ⟨some 11, none, .mv (.t 57)⟩] none))))))
         (.seq
          (.region [
           ⟨some 151, none, .mv (.t 7)⟩,
           ⟨some 6, none, .mv (.t 151)⟩] none)
          .ret))))))))))⟩
theorem nf7_ok : compF Try.prog 7 = some nf7 := by kernel_rfl

/-- comitia/comitialaw03.DiskHolds -/
def nf8 : NF := ⟨127, [.tmp 8],
 (.seq
 (.region [
  ⟨some 8, none, .mv (.c (.bool false))⟩] none)
 (.seq
  (.region [
   ⟨some 18, none, .call 9 []⟩,
   ⟨some 9, none, .mv (.t 18)⟩] none)
  (.seq
   (.seq
    (.region [
     ⟨some 19, none, .mv (.t 9)⟩,
     ⟨some 20, none, .un .not (.t 19)⟩] none)
    (.cond (.t 20)
     (.seq
      (.region [
       ⟨some 8, none, .mv (.c (.bool false))⟩] none)
      .ret)
     .skip))
   (.seq
    (.region [
     ⟨some 22, none, .call 10 [(.c (.int .i64 1048576))]⟩,
     ⟨some 21, none, .mv (.t 22)⟩,
     ⟨some 23, none, .ext (.t 21) 0⟩,
     ⟨some 24, none, .ext (.t 21) 1⟩,
     ⟨some 10, none, .mv (.t 23)⟩,
     ⟨some 11, none, .mv (.t 24)⟩] none)
    (.seq
     (.seq
      (.region [
       ⟨some 25, none, .mv (.t 10)⟩,
       ⟨some 26, none, .eq .ptr false (.t 25) (.c (.nilp))⟩,
       ⟨some 27, none, .mv (.t 26)⟩,
       ⟨some 28, some (27, false), .mv (.t 11)⟩,
       ⟨some 29, some (27, false), .bin .neq (.t 28) (.c (.int .i64 0))⟩,
       ⟨some 30, none, .pick (.t 27) (.c (.bool true)) (.t 29)⟩] none)
      (.cond (.t 30)
       (.seq
        (.region [
         ⟨some 8, none, .mv (.c (.bool false))⟩] none)
        .ret)
       .skip))
     (.seq
      (.region [
       ⟨some 31, none, .mv (.t 0)⟩,
       ⟨some 32, none, .mv (.t 0)⟩,
       ⟨some 33, none, .len .str (.t 32)⟩,
       ⟨some 34, none, .mm false [(.t 33), (.c (.int .i64 200))]⟩,
       ⟨some 35, none, .slice .str (.t 31) none (some (.t 34)) none⟩,
       ⟨some 0, none, .mv (.t 35)⟩] none)
      (.seq
       (.region [
        ⟨some 36, none, .mv (.t 1)⟩,
        ⟨some 37, none, .mv (.t 1)⟩,
        ⟨some 38, none, .len .str (.t 37)⟩,
        ⟨some 39, none, .mm false [(.t 38), (.c (.int .i64 200))]⟩,
        ⟨some 40, none, .slice .str (.t 36) none (some (.t 39)) none⟩,
        ⟨some 1, none, .mv (.t 40)⟩] none)
       (.seq
        (.region [
         ⟨some 41, none, .mv (.t 2)⟩,
         ⟨some 42, none, .mv (.t 2)⟩,
         ⟨some 43, none, .len .str (.t 42)⟩,
         ⟨some 44, none, .mm false [(.t 43), (.c (.int .i64 200))]⟩,
         ⟨some 45, none, .slice .str (.t 41) none (some (.t 44)) none⟩,
         ⟨some 2, none, .mv (.t 45)⟩] none)
        (.seq
         (.region [
          ⟨some 46, none, .mv (.t 10)⟩,
          ⟨some 47, none, .mv (.t 0)⟩,
          ⟨some 48, none, .call 11 [(.t 46), (.t 47)]⟩] none)
         (.seq
          (.region [
           ⟨some 49, none, .mv (.t 10)⟩,
           ⟨some 50, none, .call 12 [(.t 49)]⟩] none)
          (.seq
           (.region [
            ⟨some 51, none, .mv (.t 10)⟩,
            ⟨some 52, none, .call 24 [(.t 51)]⟩] none)
           (.seq
            (.region [
             ⟨some 53, none, .mv (.t 10)⟩,
             ⟨some 54, none, .mv (.t 1)⟩,
             ⟨some 55, none, .call 11 [(.t 53), (.t 54)]⟩,
             ⟨some 12, none, .mv (.t 55)⟩] none)
            (.seq
             (.region [
              ⟨some 56, none, .mv (.t 10)⟩,
              ⟨some 57, none, .call 12 [(.t 56)]⟩,
              ⟨some 13, none, .mv (.t 57)⟩] none)
             (.seq
              (.region [
               ⟨some 58, none, .mv (.t 10)⟩,
               ⟨some 59, none, .call 14 [(.t 58)]⟩,
               ⟨some 14, none, .mv (.t 59)⟩] none)
              (.seq
               (.region [
                ⟨some 60, none, .mv (.t 10)⟩,
                ⟨some 61, none, .call 13 [(.t 60)]⟩,
                ⟨some 15, none, .mv (.t 61)⟩] none)
               (.seq
                (.region [
                 ⟨some 62, none, .mv (.t 10)⟩,
                 ⟨some 63, none, .mv (.t 3)⟩,
                 ⟨some 64, none, .i2i .i64 (.t 63)⟩,
                 ⟨some 65, none, .call 15 [(.t 62), (.t 64)]⟩] none)
                (.seq
                 (.region [
                  ⟨some 66, none, .mv (.t 0)⟩,
                  ⟨some 67, none, .mv (.t 1)⟩,
                  ⟨some 68, none, .mv (.t 3)⟩,
                  ⟨some 69, none, .i2i .i64 (.t 68)⟩,
                  ⟨some 70, none, .mv (.t 1)⟩,
                  ⟨some 71, none, .len .str (.t 70)⟩,
                  ⟨some 72, none, .mm false [(.t 69), (.t 71)]⟩,
                  ⟨some 73, none, .slice .str (.t 67) none (some (.t 72)) none⟩,
                  ⟨some 74, none, .bin .add (.t 66) (.t 73)⟩,
                  ⟨some 16, none, .mv (.t 74)⟩] none)
                 (.seq
                  (.region [
                   ⟨some 75, none, .mv (.t 10)⟩,
                   ⟨some 76, none, .call 13 [(.t 75)]⟩,
                   ⟨some 17, none, .mv (.t 76)⟩] none)
                  (.seq
                   (.region [
                    ⟨some 77, none, .mv (.t 10)⟩,
                    ⟨some 78, none, .mv (.t 2)⟩,
                    ⟨some 79, none, .call 11 [(.t 77), (.t 78)]⟩] none)
                   (.seq
                    (.region [
                     ⟨some 80, none, .mv (.t 10)⟩,
                     ⟨some 81, none, .call 12 [(.t 80)]⟩] none)
                    (.seq
                     (.region [
                      ⟨some 82, none, .mv (.t 9)⟩,
                      ⟨some 83, none, .mv (.t 82)⟩,
                      ⟨some 84, some (83, true), .mv (.t 12)⟩,
                      ⟨some 85, some (83, true), .bin .eql (.t 84) (.c (.int .i64 0))⟩,
                      ⟨some 86, none, .pick (.t 83) (.t 85) (.c (.bool false))⟩,
                      ⟨some 87, none, .mv (.t 86)⟩,
                      ⟨some 88, some (87, true), .mv (.t 13)⟩,
                      ⟨some 89, some (87, true), .bin .eql (.t 88) (.c (.int .i64 0))⟩,
                      ⟨some 90, none, .pick (.t 87) (.t 89) (.c (.bool false))⟩,
                      ⟨some 91, none, .mv (.t 90)⟩,
                      ⟨some 92, some (91, true), .mv (.t 14)⟩,
                      ⟨some 93, some (91, true), .mv (.t 0)⟩,
                      ⟨some 94, some (91, true), .len .str (.t 93)⟩,
                      ⟨some 95, some (91, true), .bin .eql (.t 92) (.t 94)⟩,
                      ⟨some 96, none, .pick (.t 91) (.t 95) (.c (.bool false))⟩,
                      ⟨some 97, none, .mv (.t 96)⟩,
                      ⟨some 98, some (97, true), .mv (.t 15)⟩,
                      ⟨some 99, some (97, true), .mv (.t 0)⟩,
                      ⟨some 100, some (97, true), .mv (.t 1)⟩,
                      ⟨some 101, some (97, true), .bin .add (.t 99) (.t 100)⟩,
                      ⟨some 102, some (97, true), .bin .eql (.t 98) (.t 101)⟩,
                      ⟨some 103, none, .pick (.t 97) (.t 102) (.c (.bool false))⟩,
                      ⟨some 104, none, .mv (.t 103)⟩,
                      ⟨some 105, some (104, true), .mv (.t 17)⟩,
                      ⟨some 106, some (104, true), .mv (.t 16)⟩,
                      ⟨some 107, some (104, true), .bin .eql (.t 105) (.t 106)⟩,
                      ⟨some 108, none, .pick (.t 104) (.t 107) (.c (.bool false))⟩,
                      ⟨some 109, none, .mv (.t 108)⟩,
                      ⟨some 110, some (109, true), .mv (.t 10)⟩,
                      ⟨some 111, some (109, true), .call 14 [(.t 110)]⟩,
                      ⟨some 112, some (109, true), .mv (.t 16)⟩,
                      ⟨some 113, some (109, true), .len .str (.t 112)⟩,
                      ⟨some 114, some (109, true), .mv (.t 2)⟩,
                      ⟨some 115, some (109, true), .len .str (.t 114)⟩,
                      ⟨some 116, some (109, true), .bin .add (.t 113) (.t 115)⟩,
                      ⟨some 117, some (109, true), .bin .eql (.t 111) (.t 116)⟩,
                      ⟨some 118, none, .pick (.t 109) (.t 117) (.c (.bool false))⟩,
                      ⟨some 119, none, .mv (.t 118)⟩,
                      ⟨some 120, some (119, true), .mv (.t 10)⟩,
                      ⟨some 121, some (119, true), .call 13 [(.t 120)]⟩,
                      ⟨some 122, some (119, true), .mv (.t 16)⟩,
                      ⟨some 123, some (119, true), .mv (.t 2)⟩,
                      ⟨some 124, some (119, true), .bin .add (.t 122) (.t 123)⟩,
                      ⟨some 125, some (119, true), .bin .eql (.t 121) (.t 124)⟩,
                      ⟨some 126, none, .pick (.t 119) (.t 125) (.c (.bool false))⟩,
                      ⟨some 8, none, .mv (.t 126)⟩] none)
                     .ret)))))))))))))))))))))⟩
theorem nf8_ok : compF Try.prog 8 = some nf8 := by kernel_rfl

/-- comitia/comitialaw03.examples -/
def nf9 : NF := ⟨93, [.tmp 0],
 (.seq
 (.region [
  ⟨some 0, none, .mv (.c (.bool false))⟩] none)
 (.seq
  (.region [
   ⟨some 11, none, .call 10 [(.c (.int .i64 0))]⟩,
   ⟨some 10, none, .mv (.t 11)⟩,
   ⟨some 12, none, .ext (.t 10) 0⟩,
   ⟨some 13, none, .ext (.t 10) 1⟩,
   ⟨some 1, none, .mv (.t 12)⟩,
   ⟨some 2, none, .mv (.t 13)⟩] none)
  (.seq
   (.region [
    ⟨some 15, none, .call 10 [(.c (.int .i64 6))]⟩,
    ⟨some 14, none, .mv (.t 15)⟩,
    ⟨some 16, none, .ext (.t 14) 0⟩,
    ⟨some 17, none, .ext (.t 14) 1⟩,
    ⟨some 3, none, .mv (.t 16)⟩,
    ⟨some 4, none, .mv (.t 17)⟩] none)
   (.seq
    (.seq
     (.region [
      ⟨some 18, none, .mv (.t 3)⟩,
      ⟨some 19, none, .eq .ptr false (.t 18) (.c (.nilp))⟩] none)
     (.cond (.t 19)
      (.seq
       (.region [
        ⟨some 0, none, .mv (.c (.bool false))⟩] none)
       .ret)
      .skip))
    (.seq
     (.region [
      ⟨some 20, none, .mv (.t 3)⟩,
      ⟨some 21, none, .call 11 [(.t 20), (.c (.str ⟨#[97, 98, 99]⟩))]⟩,
      ⟨some 5, none, .mv (.t 21)⟩] none)
     (.seq
      (.region [
       ⟨some 22, none, .mv (.t 3)⟩,
       ⟨some 23, none, .call 12 [(.t 22)]⟩,
       ⟨some 6, none, .mv (.t 23)⟩] none)
      (.seq
       (.region [
        ⟨some 24, none, .mv (.t 3)⟩,
        ⟨some 25, none, .call 11 [(.t 24), (.c (.str ⟨#[100, 101, 102, 103]⟩))]⟩,
        ⟨some 7, none, .mv (.t 25)⟩] none)
       (.seq
        (.region [
         ⟨some 26, none, .mv (.t 3)⟩,
         ⟨some 27, none, .call 11 [(.t 26), (.c (.str ⟨#[100, 101, 102]⟩))]⟩,
         ⟨some 8, none, .mv (.t 27)⟩] none)
        (.seq
         (.region [
          ⟨some 28, none, .mv (.t 3)⟩,
          ⟨some 29, none, .call 14 [(.t 28)]⟩,
          ⟨some 9, none, .mv (.t 29)⟩] none)
         (.seq
          (.region [
           ⟨some 30, none, .mv (.t 3)⟩,
           ⟨some 31, none, .call 15 [(.t 30), (.c (.int .i64 2))]⟩] none)
          (.seq
           (.region [
            ⟨some 32, none, .mv (.t 2)⟩,
            ⟨some 33, none, .bin .eql (.t 32) (.c (.int .i64 1))⟩,
            ⟨some 34, none, .mv (.t 33)⟩,
            ⟨some 35, some (34, true), .mv (.t 4)⟩,
            ⟨some 36, some (34, true), .bin .eql (.t 35) (.c (.int .i64 0))⟩,
            ⟨some 37, none, .pick (.t 34) (.t 36) (.c (.bool false))⟩,
            ⟨some 38, none, .mv (.t 37)⟩,
            ⟨some 39, some (38, true), .mv (.t 5)⟩,
            ⟨some 40, some (38, true), .bin .eql (.t 39) (.c (.int .i64 0))⟩,
            ⟨some 41, none, .pick (.t 38) (.t 40) (.c (.bool false))⟩,
            ⟨some 42, none, .mv (.t 41)⟩,
            ⟨some 43, some (42, true), .mv (.t 6)⟩,
            ⟨some 44, some (42, true), .bin .eql (.t 43) (.c (.int .i64 0))⟩,
            ⟨some 45, none, .pick (.t 42) (.t 44) (.c (.bool false))⟩,
            ⟨some 46, none, .mv (.t 45)⟩,
            ⟨some 47, some (46, true), .mv (.t 7)⟩,
            ⟨some 48, some (46, true), .bin .eql (.t 47) (.c (.int .i64 4))⟩,
            ⟨some 49, none, .pick (.t 46) (.t 48) (.c (.bool false))⟩,
            ⟨some 50, none, .mv (.t 49)⟩,
            ⟨some 51, some (50, true), .mv (.t 8)⟩,
            ⟨some 52, some (50, true), .bin .eql (.t 51) (.c (.int .i64 0))⟩,
            ⟨some 53, none, .pick (.t 50) (.t 52) (.c (.bool false))⟩,
            ⟨some 54, none, .mv (.t 53)⟩,
            ⟨some 55, some (54, true), .mv (.t 9)⟩,
            ⟨some 56, some (54, true), .bin .eql (.t 55) (.c (.int .i64 3))⟩,
            ⟨some 57, none, .pick (.t 54) (.t 56) (.c (.bool false))⟩,
            ⟨some 58, none, .mv (.t 57)⟩,
            ⟨some 59, some (58, true), .mv (.t 3)⟩,
            ⟨some 60, some (58, true), .call 13 [(.t 59)]⟩,
            ⟨some 61, some (58, true), .bin .eql (.t 60) (.c (.str ⟨#[97, 98, 99, 100, 101]⟩))⟩,
            ⟨some 62, none, .pick (.t 58) (.t 61) (.c (.bool false))⟩,
            ⟨some 63, none, .mv (.t 62)⟩,
            ⟨some 64, some (63, true), .mv (.t 3)⟩,
            ⟨some 65, some (63, true), .call 14 [(.t 64)]⟩,
            ⟨some 66, some (63, true), .bin .eql (.t 65) (.c (.int .i64 5))⟩,
            ⟨some 67, none, .pick (.t 63) (.t 66) (.c (.bool false))⟩,
            ⟨some 68, none, .mv (.t 67)⟩,
            ⟨some 69, some (68, true), .mv (.t 3)⟩,
            ⟨some 70, some (68, true), .call 18 [(.t 69), (.c (.int .i64 9))]⟩,
            ⟨some 71, some (68, true), .bin .eql (.t 70) (.c (.int .i64 1))⟩,
            ⟨some 72, none, .pick (.t 68) (.t 71) (.c (.bool false))⟩,
            ⟨some 73, none, .mv (.t 72)⟩,
            ⟨some 74, some (73, true), .mv (.t 3)⟩,
            ⟨some 75, some (73, true), .call 18 [(.t 74), (.c (.int .i64 1))]⟩,
            ⟨some 76, some (73, true), .bin .eql (.t 75) (.c (.int .i64 0))⟩,
            ⟨some 77, none, .pick (.t 73) (.t 76) (.c (.bool false))⟩,
            ⟨some 78, none, .mv (.t 77)⟩,
            ⟨some 79, some (78, true), .mv (.t 3)⟩,
            ⟨some 80, some (78, true), .call 13 [(.t 79)]⟩,
            ⟨some 81, some (78, true), .bin .eql (.t 80) (.c (.str ⟨#[97]⟩))⟩,
            ⟨some 82, none, .pick (.t 78) (.t 81) (.c (.bool false))⟩,
            ⟨some 83, none, .mv (.t 82)⟩,
            ⟨some 84, some (83, true), .mv (.t 3)⟩,
            ⟨some 85, some (83, true), .call 16 [(.t 84), (.c (.int .i64 4))]⟩,
            ⟨some 86, some (83, true), .bin .eql (.t 85) (.c (.int .i64 0))⟩,
            ⟨some 87, none, .pick (.t 83) (.t 86) (.c (.bool false))⟩,
            ⟨some 88, none, .mv (.t 87)⟩,
            ⟨some 89, some (88, true), .mv (.t 3)⟩,
            ⟨some 90, some (88, true), .call 17 [(.t 89)]⟩,
            ⟨some 91, some (88, true), .bin .eql (.t 90) (.c (.int .i64 10))⟩,
            ⟨some 92, none, .pick (.t 88) (.t 91) (.c (.bool false))⟩,
            ⟨some 0, none, .mv (.t 92)⟩] none)
           .ret)))))))))))⟩
theorem nf9_ok : compF Try.prog 9 = some nf9 := by kernel_rfl

/-- comitia/disk.New -/
def nf10 : NF := ⟨13, [.tmp 2, .tmp 3],
 (.seq
 (.region [
  ⟨some 2, none, .mv (.c (.nilp))⟩,
  ⟨some 3, none, .mv (.c (.int .i64 0))⟩] none)
 (.seq
  (.seq
   (.region [
    ⟨some 4, none, .mv (.t 0)⟩,
    ⟨some 5, none, .bin .lss (.t 4) (.c (.int .i64 1))⟩,
    ⟨some 6, none, .mv (.t 5)⟩,
    ⟨some 7, some (6, false), .mv (.t 0)⟩,
    ⟨some 8, some (6, false), .bin .gtr (.t 7) (.c (.int .i64 16777216))⟩,
    ⟨some 9, none, .pick (.t 6) (.c (.bool true)) (.t 8)⟩] none)
   (.cond (.t 9)
    (.seq
     (.region [
      ⟨some 2, none, .mv (.c (.nilp))⟩,
      ⟨some 3, none, .mv (.c (.int .i64 1))⟩] none)
     .ret)
    .skip))
  (.seq
   (.region [
    ⟨some 10, none, .mv (.t 0)⟩,
    ⟨some 11, none, .build [.str ByteArray.empty, .slc 0 true [], .int .i64 0, .bool false] [(2, 1, (.t 10))]⟩,
    ⟨some 12, none, .box (.t 11)⟩,
    ⟨some 2, none, .mv (.t 12)⟩,
    ⟨some 3, none, .mv (.c (.int .i64 0))⟩] none)
   .ret)))⟩
theorem nf10_ok : compF Try.prog 10 = some nf10 := by kernel_rfl

/-- (*comitia/disk.Disk).Append -/
def nf11 : NF := ⟨25, [.tmp 4],
 (.seq
 (.region [
  ⟨some 4, none, .mv (.c (.int .i64 0))⟩] none)
 (.seq
  (.seq
   (.region [
    ⟨some 5, none, .mv (.t 1)⟩,
    ⟨some 6, none, .len .str (.t 5)⟩,
    ⟨some 7, none, .mv (.t 0)⟩,
    ⟨some 8, none, .nchk (.t 7)⟩,
    ⟨some 9, none, .faddr 2 (.t 8)⟩,
    ⟨some 10, none, .load false 1 (.t 9)⟩,
    ⟨some 11, none, .mv (.t 0)⟩,
    ⟨some 12, none, .call 26 [(.t 11)]⟩,
    ⟨some 13, none, .bin .sub (.t 10) (.t 12)⟩,
    ⟨some 14, none, .bin .gtr (.t 6) (.t 13)⟩] (some (9, [0, 1, 0, 4, 12, 28, 0, 64, 252, 511], 32768)))
   (.cond (.t 14)
    (.seq
     (.region [
      ⟨some 4, none, .mv (.c (.int .i64 4))⟩] none)
     .ret)
    .skip))
  (.seq
   (.region [
    ⟨some 15, none, .mv (.t 0)⟩,
    ⟨some 16, none, .mv (.t 0)⟩,
    ⟨some 17, none, .nchk (.t 16)⟩,
    ⟨some 18, none, .faddr 1 (.t 17)⟩,
    ⟨some 19, none, .load false 1 (.t 18)⟩,
    ⟨some 20, none, .mv (.t 1)⟩,
    ⟨some 21, none, .bslc 1 1 [.str ByteArray.empty] [(0, 1, (.t 20))]⟩,
    ⟨some 22, none, .app 1 16 (.t 19) (.t 21)⟩,
    ⟨some 23, none, .nchk (.t 15)⟩,
    ⟨some 24, none, .faddr 1 (.t 23)⟩,
    ⟨none, none, .store 1 (.t 24) (.t 22)⟩] none)
   (.seq
    (.region [
     ⟨some 4, none, .mv (.c (.int .i64 0))⟩] none)
    .ret))))⟩
theorem nf11_ok : compF Try.prog 11 = some nf11 := by kernel_rfl

/-- (*comitia/disk.Disk).Sync -/
def nf12 : NF := ⟨16, [.tmp 2],
 (.seq
 (.region [
  ⟨some 2, none, .mv (.c (.int .i64 0))⟩] none)
 (.seq
  (.seq
   (.region [
    ⟨some 3, none, .mv (.t 0)⟩,
    ⟨some 4, none, .nchk (.t 3)⟩,
    ⟨some 5, none, .faddr 3 (.t 4)⟩,
    ⟨some 6, none, .load false 1 (.t 5)⟩,
    ⟨some 7, none, .un .not (.t 6)⟩] none)
   (.cond (.t 7)
    (.region [
     ⟨some 8, none, .mv (.t 0)⟩,
     ⟨some 9, none, .mv (.t 0)⟩,
     ⟨some 10, none, .mv (.t 0)⟩,
     ⟨some 11, none, .call 13 [(.t 10)]⟩,
     ⟨some 12, none, .nchk (.t 8)⟩,
     ⟨some 13, none, .faddr 0 (.t 12)⟩,
     ⟨none, none, .store 1 (.t 13) (.t 11)⟩,
     ⟨some 14, none, .nchk (.t 9)⟩,
     ⟨some 15, none, .faddr 1 (.t 14)⟩,
     ⟨none, none, .store 1 (.t 15) (.c (.slc 0 true []))⟩] none)
    .skip))
  (.seq
   (.region [
    ⟨some 2, none, .mv (.c (.int .i64 0))⟩] none)
   .ret)))⟩
theorem nf12_ok : compF Try.prog 12 = some nf12 := by kernel_rfl

/-- (*comitia/disk.Disk).Bytes -/
def nf13 : NF := ⟨13, [.tmp 2],
 (.seq
 (.region [
  ⟨some 2, none, .mv (.c (.str ByteArray.empty))⟩] none)
 (.seq
  (.region [
   ⟨some 3, none, .mv (.t 0)⟩,
   ⟨some 4, none, .nchk (.t 3)⟩,
   ⟨some 5, none, .faddr 0 (.t 4)⟩,
   ⟨some 6, none, .load false 1 (.t 5)⟩,
   ⟨some 7, none, .mv (.t 0)⟩,
   ⟨some 8, none, .nchk (.t 7)⟩,
   ⟨some 9, none, .faddr 1 (.t 8)⟩,
   ⟨some 10, none, .load false 1 (.t 9)⟩,
   ⟨some 11, none, .call 27 [(.t 10), (.c (.str ByteArray.empty))]⟩,
   ⟨some 12, none, .bin .add (.t 6) (.t 11)⟩,
   ⟨some 2, none, .mv (.t 12)⟩] (some (9, [0, 1, 3, 7, 0, 16, 48, 112, 240, 511, 1023], 131072)))
  .ret))⟩
theorem nf13_ok : compF Try.prog 13 = some nf13 := by kernel_rfl

/-- (*comitia/disk.Disk).Synced -/
def nf14 : NF := ⟨8, [.tmp 2],
 (.seq
 (.region [
  ⟨some 2, none, .mv (.c (.int .i64 0))⟩] none)
 (.seq
  (.region [
   ⟨some 3, none, .mv (.t 0)⟩,
   ⟨some 4, none, .nchk (.t 3)⟩,
   ⟨some 5, none, .faddr 0 (.t 4)⟩,
   ⟨some 6, none, .load false 1 (.t 5)⟩,
   ⟨some 7, none, .len .str (.t 6)⟩,
   ⟨some 2, none, .mv (.t 7)⟩] none)
  .ret))⟩
theorem nf14_ok : compF Try.prog 14 = some nf14 := by kernel_rfl

/-- (*comitia/disk.Disk).Crash -/
def nf15 : NF := ⟨31, [],
 (.seq
 (.region [
  ⟨some 5, none, .mv (.t 0)⟩,
  ⟨some 6, none, .nchk (.t 5)⟩,
  ⟨some 7, none, .faddr 1 (.t 6)⟩,
  ⟨some 8, none, .load false 1 (.t 7)⟩,
  ⟨some 9, none, .call 27 [(.t 8), (.c (.str ByteArray.empty))]⟩,
  ⟨some 4, none, .mv (.t 9)⟩] none)
 (.seq
  (.region [
   ⟨some 10, none, .mv (.t 0)⟩,
   ⟨some 11, none, .mv (.t 0)⟩,
   ⟨some 12, none, .mv (.t 0)⟩,
   ⟨some 13, none, .nchk (.t 12)⟩,
   ⟨some 14, none, .faddr 0 (.t 13)⟩,
   ⟨some 15, none, .load false 1 (.t 14)⟩,
   ⟨some 16, none, .mv (.t 4)⟩,
   ⟨some 17, none, .mv (.t 1)⟩,
   ⟨some 18, none, .mv (.t 4)⟩,
   ⟨some 19, none, .len .str (.t 18)⟩,
   ⟨some 20, none, .mm false [(.t 17), (.t 19)]⟩,
   ⟨some 21, none, .mm true [(.t 20), (.c (.int .i64 0))]⟩,
   ⟨some 22, none, .slice .str (.t 16) none (some (.t 21)) none⟩,
   ⟨some 23, none, .bin .add (.t 15) (.t 22)⟩,
   ⟨some 24, none, .nchk (.t 10)⟩,
   ⟨some 25, none, .faddr 0 (.t 24)⟩,
   ⟨none, none, .store 1 (.t 25) (.t 23)⟩,
   ⟨some 26, none, .nchk (.t 11)⟩,
   ⟨some 27, none, .faddr 1 (.t 26)⟩,
   ⟨none, none, .store 1 (.t 27) (.c (.slc 0 true []))⟩] (some (17, [0, 0, 0, 4, 12, 28, 0, 0, 0, 256, 896, 1920, 4032, 8188, 16381, 32765, 65533, 131071, 262143, 524287], 0)))
  (.region [
   ⟨some 28, none, .mv (.t 0)⟩,
   ⟨some 29, none, .nchk (.t 28)⟩,
   ⟨some 30, none, .faddr 3 (.t 29)⟩,
   ⟨none, none, .store 1 (.t 30) (.c (.bool false))⟩] none)))⟩
theorem nf15_ok : compF Try.prog 15 = some nf15 := by kernel_rfl

/-- (*comitia/disk.Disk).Grow -/
def nf16 : NF := ⟨24, [.tmp 4],
 (.seq
 (.region [
  ⟨some 4, none, .mv (.c (.int .i64 0))⟩] none)
 (.seq
  (.seq
   (.region [
    ⟨some 5, none, .mv (.t 1)⟩,
    ⟨some 6, none, .bin .lss (.t 5) (.c (.int .i64 0))⟩,
    ⟨some 7, none, .mv (.t 6)⟩,
    ⟨some 8, some (7, false), .mv (.t 1)⟩,
    ⟨some 9, some (7, false), .mv (.t 0)⟩,
    ⟨some 10, some (7, false), .nchk (.t 9)⟩,
    ⟨some 11, some (7, false), .faddr 2 (.t 10)⟩,
    ⟨some 12, some (7, false), .load false 1 (.t 11)⟩,
    ⟨some 13, some (7, false), .bin .sub (.c (.int .i64 16777216)) (.t 12)⟩,
    ⟨some 14, some (7, false), .bin .gtr (.t 8) (.t 13)⟩,
    ⟨some 15, none, .pick (.t 7) (.c (.bool true)) (.t 14)⟩] none)
   (.cond (.t 15)
    (.seq
     (.region [
      ⟨some 4, none, .mv (.c (.int .i64 1))⟩] none)
     .ret)
    .skip))
  (.seq
   (.region [
    ⟨some 16, none, .mv (.t 0)⟩,
    ⟨some 17, none, .nchk (.t 16)⟩,
    ⟨some 18, none, .faddr 2 (.t 17)⟩,
    ⟨some 19, none, .load false 1 (.t 18)⟩,
    ⟨some 20, none, .mv (.t 1)⟩,
    ⟨some 21, none, .bin .add (.t 19) (.t 20)⟩,
    ⟨some 22, none, .nchk (.t 16)⟩,
    ⟨some 23, none, .faddr 2 (.t 22)⟩,
    ⟨none, none, .store 1 (.t 23) (.t 21)⟩] none)
   (.seq
    (.region [
     ⟨some 4, none, .mv (.c (.int .i64 0))⟩] none)
    .ret))))⟩
theorem nf16_ok : compF Try.prog 16 = some nf16 := by kernel_rfl

/-- (*comitia/disk.Disk).Room -/
def nf17 : NF := ⟨7, [.tmp 2],
 (.seq
 (.region [
  ⟨some 2, none, .mv (.c (.int .i64 0))⟩] none)
 (.seq
  (.region [
   ⟨some 3, none, .mv (.t 0)⟩,
   ⟨some 4, none, .nchk (.t 3)⟩,
   ⟨some 5, none, .faddr 2 (.t 4)⟩,
   ⟨some 6, none, .load false 1 (.t 5)⟩,
   ⟨some 2, none, .mv (.t 6)⟩] none)
  .ret))⟩
theorem nf17_ok : compF Try.prog 17 = some nf17 := by kernel_rfl

/-- (*comitia/disk.Disk).Cut -/
def nf18 : NF := ⟨28, [.tmp 4],
 (.seq
 (.region [
  ⟨some 4, none, .mv (.c (.int .i64 0))⟩] none)
 (.seq
  (.region [
   ⟨some 6, none, .mv (.t 0)⟩,
   ⟨some 7, none, .call 13 [(.t 6)]⟩,
   ⟨some 5, none, .mv (.t 7)⟩] none)
  (.seq
   (.seq
    (.region [
     ⟨some 8, none, .mv (.t 1)⟩,
     ⟨some 9, none, .bin .lss (.t 8) (.c (.int .i64 0))⟩,
     ⟨some 10, none, .mv (.t 9)⟩,
     ⟨some 11, some (10, false), .mv (.t 1)⟩,
     ⟨some 12, some (10, false), .mv (.t 5)⟩,
     ⟨some 13, some (10, false), .len .str (.t 12)⟩,
     ⟨some 14, some (10, false), .bin .gtr (.t 11) (.t 13)⟩,
     ⟨some 15, none, .pick (.t 10) (.c (.bool true)) (.t 14)⟩] none)
    (.cond (.t 15)
     (.seq
      (.region [
       ⟨some 4, none, .mv (.c (.int .i64 1))⟩] none)
      .ret)
     .skip))
   (.seq
    (.region [
     ⟨some 16, none, .mv (.t 0)⟩,
     ⟨some 17, none, .mv (.t 0)⟩,
     ⟨some 18, none, .mv (.t 0)⟩,
     ⟨some 19, none, .mv (.t 5)⟩,
     ⟨some 20, none, .mv (.t 1)⟩,
     ⟨some 21, none, .slice .str (.t 19) none (some (.t 20)) none⟩,
     ⟨some 22, none, .nchk (.t 16)⟩,
     ⟨some 23, none, .faddr 0 (.t 22)⟩,
     ⟨none, none, .store 1 (.t 23) (.t 21)⟩,
     ⟨some 24, none, .nchk (.t 17)⟩,
     ⟨some 25, none, .faddr 1 (.t 24)⟩,
     ⟨none, none, .store 1 (.t 25) (.c (.slc 0 true []))⟩,
     ⟨some 26, none, .nchk (.t 18)⟩,
     ⟨some 27, none, .faddr 3 (.t 26)⟩,
     ⟨none, none, .store 1 (.t 27) (.c (.bool false))⟩] none)
    (.seq
     (.region [
      ⟨some 4, none, .mv (.c (.int .i64 0))⟩] none)
     .ret)))))⟩
theorem nf18_ok : compF Try.prog 18 = some nf18 := by kernel_rfl

/-- comitia/comitiaref03.New -/
def nf19 : NF := ⟨12, [.tmp 2],
 (.seq
 (.region [
  ⟨some 2, none, .mv (.c (.nilp))⟩] none)
 (.seq
  (.seq
   (.region [
    ⟨some 3, none, .mv (.t 0)⟩,
    ⟨some 4, none, .bin .lss (.t 3) (.c (.int .i64 1))⟩,
    ⟨some 5, none, .mv (.t 4)⟩,
    ⟨some 6, some (5, false), .mv (.t 0)⟩,
    ⟨some 7, some (5, false), .bin .gtr (.t 6) (.c (.int .i64 16777216))⟩,
    ⟨some 8, none, .pick (.t 5) (.c (.bool true)) (.t 7)⟩] none)
   (.cond (.t 8)
    (.seq
     (.region [
      ⟨some 2, none, .mv (.c (.nilp))⟩] none)
     .ret)
    .skip))
  (.seq
   (.region [
    ⟨some 9, none, .mv (.t 0)⟩,
    ⟨some 10, none, .build [.str ByteArray.empty, .int .i64 0, .int .i64 0, .bool false] [(2, 1, (.t 9))]⟩,
    ⟨some 11, none, .box (.t 10)⟩,
    ⟨some 2, none, .mv (.t 11)⟩] none)
   .ret)))⟩
theorem nf19_ok : compF Try.prog 19 = some nf19 := by kernel_rfl

/-- (*comitia/comitiaref03.Disk).Sync -/
def nf20 : NF := ⟨15, [],
 (.seq
 (.region [
  ⟨some 2, none, .mv (.t 0)⟩,
  ⟨some 3, none, .nchk (.t 2)⟩,
  ⟨some 4, none, .faddr 3 (.t 3)⟩,
  ⟨some 5, none, .load false 1 (.t 4)⟩,
  ⟨some 6, none, .un .not (.t 5)⟩] none)
 (.cond (.t 6)
  (.region [
   ⟨some 7, none, .mv (.t 0)⟩,
   ⟨some 8, none, .mv (.t 0)⟩,
   ⟨some 9, none, .nchk (.t 8)⟩,
   ⟨some 10, none, .faddr 0 (.t 9)⟩,
   ⟨some 11, none, .load false 1 (.t 10)⟩,
   ⟨some 12, none, .len .str (.t 11)⟩,
   ⟨some 13, none, .nchk (.t 7)⟩,
   ⟨some 14, none, .faddr 1 (.t 13)⟩,
   ⟨none, none, .store 1 (.t 14) (.t 12)⟩] none)
  .skip))⟩
theorem nf20_ok : compF Try.prog 20 = some nf20 := by kernel_rfl

/-- (*comitia/comitiaref03.Disk).Crash -/
def nf21 : NF := ⟨37, [],
 (.seq
 (.region [
  ⟨some 5, none, .mv (.t 1)⟩,
  ⟨some 6, none, .mv (.t 0)⟩,
  ⟨some 7, none, .nchk (.t 6)⟩,
  ⟨some 8, none, .faddr 0 (.t 7)⟩,
  ⟨some 9, none, .load false 1 (.t 8)⟩,
  ⟨some 10, none, .len .str (.t 9)⟩,
  ⟨some 11, none, .mv (.t 0)⟩,
  ⟨some 12, none, .nchk (.t 11)⟩,
  ⟨some 13, none, .faddr 1 (.t 12)⟩,
  ⟨some 14, none, .load false 1 (.t 13)⟩,
  ⟨some 15, none, .bin .sub (.t 10) (.t 14)⟩,
  ⟨some 16, none, .mm false [(.t 5), (.t 15)]⟩,
  ⟨some 17, none, .mm true [(.t 16), (.c (.int .i64 0))]⟩,
  ⟨some 4, none, .mv (.t 17)⟩] (some (11, [0, 0, 2, 6, 14, 30, 0, 64, 192, 448, 1022, 2047, 4095, 8191], 0)))
 (.seq
  (.region [
   ⟨some 18, none, .mv (.t 0)⟩,
   ⟨some 19, none, .mv (.t 0)⟩,
   ⟨some 20, none, .nchk (.t 19)⟩,
   ⟨some 21, none, .faddr 0 (.t 20)⟩,
   ⟨some 22, none, .load false 1 (.t 21)⟩,
   ⟨some 23, none, .mv (.t 0)⟩,
   ⟨some 24, none, .nchk (.t 23)⟩,
   ⟨some 25, none, .faddr 1 (.t 24)⟩,
   ⟨some 26, none, .load false 1 (.t 25)⟩,
   ⟨some 27, none, .mv (.t 4)⟩,
   ⟨some 28, none, .bin .add (.t 26) (.t 27)⟩,
   ⟨some 29, none, .slice .str (.t 22) none (some (.t 28)) none⟩,
   ⟨some 30, none, .nchk (.t 18)⟩,
   ⟨some 31, none, .faddr 0 (.t 30)⟩,
   ⟨none, none, .store 1 (.t 31) (.t 29)⟩] (some (12, [0, 0, 2, 6, 14, 0, 32, 96, 224, 0, 992, 2046, 4095, 8191, 16383], 0)))
  (.seq
   (.region [
    ⟨some 32, none, .mv (.t 0)⟩,
    ⟨some 33, none, .nchk (.t 32)⟩,
    ⟨some 34, none, .faddr 3 (.t 33)⟩,
    ⟨none, none, .store 1 (.t 34) (.c (.bool false))⟩] none)
   (.region [
    ⟨some 35, none, .mv (.t 0)⟩,
    ⟨some 36, none, .call 20 [(.t 35)]⟩] none))))⟩
theorem nf21_ok : compF Try.prog 21 = some nf21 := by kernel_rfl

/-- (*comitia/comitiaref03.Disk).Cut -/
def nf22 : NF := ⟨30, [.tmp 4],
 (.seq
 (.region [
  ⟨some 4, none, .mv (.c (.int .i64 0))⟩] none)
 (.seq
  (.seq
   (.region [
    ⟨some 5, none, .mv (.t 1)⟩,
    ⟨some 6, none, .bin .lss (.t 5) (.c (.int .i64 0))⟩,
    ⟨some 7, none, .mv (.t 6)⟩,
    ⟨some 8, some (7, false), .mv (.t 1)⟩,
    ⟨some 9, some (7, false), .mv (.t 0)⟩,
    ⟨some 10, some (7, false), .nchk (.t 9)⟩,
    ⟨some 11, some (7, false), .faddr 0 (.t 10)⟩,
    ⟨some 12, some (7, false), .load false 1 (.t 11)⟩,
    ⟨some 13, some (7, false), .len .str (.t 12)⟩,
    ⟨some 14, some (7, false), .bin .gtr (.t 8) (.t 13)⟩,
    ⟨some 15, none, .pick (.t 7) (.c (.bool true)) (.t 14)⟩] none)
   (.cond (.t 15)
    (.seq
     (.region [
      ⟨some 4, none, .mv (.c (.int .i64 1))⟩] none)
     .ret)
    .skip))
  (.seq
   (.region [
    ⟨some 16, none, .mv (.t 0)⟩,
    ⟨some 17, none, .mv (.t 0)⟩,
    ⟨some 18, none, .nchk (.t 17)⟩,
    ⟨some 19, none, .faddr 0 (.t 18)⟩,
    ⟨some 20, none, .load false 1 (.t 19)⟩,
    ⟨some 21, none, .mv (.t 1)⟩,
    ⟨some 22, none, .slice .str (.t 20) none (some (.t 21)) none⟩,
    ⟨some 23, none, .nchk (.t 16)⟩,
    ⟨some 24, none, .faddr 0 (.t 23)⟩,
    ⟨none, none, .store 1 (.t 24) (.t 22)⟩] none)
   (.seq
    (.region [
     ⟨some 25, none, .mv (.t 0)⟩,
     ⟨some 26, none, .nchk (.t 25)⟩,
     ⟨some 27, none, .faddr 3 (.t 26)⟩,
     ⟨none, none, .store 1 (.t 27) (.c (.bool false))⟩] none)
    (.seq
     (.region [
      ⟨some 28, none, .mv (.t 0)⟩,
      ⟨some 29, none, .call 20 [(.t 28)]⟩] none)
     (.seq
      (.region [
       ⟨some 4, none, .mv (.c (.int .i64 0))⟩] none)
      .ret))))))⟩
theorem nf22_ok : compF Try.prog 22 = some nf22 := by kernel_rfl

/-- (*comitia/comitiaref03.Disk).Grow -/
def nf23 : NF := ⟨25, [.tmp 4],
 (.seq
 (.region [
  ⟨some 4, none, .mv (.c (.int .i64 0))⟩] none)
 (.seq
  (.seq
   (.region [
    ⟨some 5, none, .mv (.t 1)⟩,
    ⟨some 6, none, .bin .lss (.t 5) (.c (.int .i64 0))⟩,
    ⟨some 7, none, .mv (.t 6)⟩,
    ⟨some 8, some (7, false), .mv (.t 1)⟩,
    ⟨some 9, some (7, false), .mv (.t 0)⟩,
    ⟨some 10, some (7, false), .nchk (.t 9)⟩,
    ⟨some 11, some (7, false), .faddr 2 (.t 10)⟩,
    ⟨some 12, some (7, false), .load false 1 (.t 11)⟩,
    ⟨some 13, some (7, false), .bin .sub (.c (.int .i64 16777216)) (.t 12)⟩,
    ⟨some 14, some (7, false), .bin .gtr (.t 8) (.t 13)⟩,
    ⟨some 15, none, .pick (.t 7) (.c (.bool true)) (.t 14)⟩] none)
   (.cond (.t 15)
    (.seq
     (.region [
      ⟨some 4, none, .mv (.c (.int .i64 1))⟩] none)
     .ret)
    .skip))
  (.seq
   (.region [
    ⟨some 16, none, .mv (.t 0)⟩,
    ⟨some 17, none, .mv (.t 0)⟩,
    ⟨some 18, none, .nchk (.t 17)⟩,
    ⟨some 19, none, .faddr 2 (.t 18)⟩,
    ⟨some 20, none, .load false 1 (.t 19)⟩,
    ⟨some 21, none, .mv (.t 1)⟩,
    ⟨some 22, none, .bin .add (.t 20) (.t 21)⟩,
    ⟨some 23, none, .nchk (.t 16)⟩,
    ⟨some 24, none, .faddr 2 (.t 23)⟩,
    ⟨none, none, .store 1 (.t 24) (.t 22)⟩] none)
   (.seq
    (.region [
     ⟨some 4, none, .mv (.c (.int .i64 0))⟩] none)
    .ret))))⟩
theorem nf23_ok : compF Try.prog 23 = some nf23 := by kernel_rfl

/-- (*comitia/disk.Disk).Hold -/
def nf24 : NF := ⟨5, [],
 (.region [
 ⟨some 2, none, .mv (.t 0)⟩,
 ⟨some 3, none, .nchk (.t 2)⟩,
 ⟨some 4, none, .faddr 3 (.t 3)⟩,
 ⟨none, none, .store 1 (.t 4) (.c (.bool true))⟩] none)⟩
theorem nf24_ok : compF Try.prog 24 = some nf24 := by kernel_rfl

/-- (*comitia/comitiaref03.Disk).Append -/
def nf25 : NF := ⟨27, [.tmp 4],
 (.seq
 (.region [
  ⟨some 4, none, .mv (.c (.int .i64 0))⟩] none)
 (.seq
  (.seq
   (.region [
    ⟨some 5, none, .mv (.t 0)⟩,
    ⟨some 6, none, .nchk (.t 5)⟩,
    ⟨some 7, none, .faddr 0 (.t 6)⟩,
    ⟨some 8, none, .load false 1 (.t 7)⟩,
    ⟨some 9, none, .len .str (.t 8)⟩,
    ⟨some 10, none, .mv (.t 1)⟩,
    ⟨some 11, none, .len .str (.t 10)⟩,
    ⟨some 12, none, .bin .add (.t 9) (.t 11)⟩,
    ⟨some 13, none, .mv (.t 0)⟩,
    ⟨some 14, none, .nchk (.t 13)⟩,
    ⟨some 15, none, .faddr 2 (.t 14)⟩,
    ⟨some 16, none, .load false 1 (.t 15)⟩,
    ⟨some 17, none, .bin .gtr (.t 12) (.t 16)⟩] (some (12, [0, 1, 3, 7, 15, 0, 32, 127, 0, 256, 768, 1792, 4095], 0)))
   (.cond (.t 17)
    (.seq
     (.region [
      ⟨some 4, none, .mv (.c (.int .i64 4))⟩] none)
     .ret)
    .skip))
  (.seq
   (.region [
    ⟨some 18, none, .mv (.t 0)⟩,
    ⟨some 19, none, .mv (.t 0)⟩,
    ⟨some 20, none, .nchk (.t 19)⟩,
    ⟨some 21, none, .faddr 0 (.t 20)⟩,
    ⟨some 22, none, .load false 1 (.t 21)⟩,
    ⟨some 23, none, .mv (.t 1)⟩,
    ⟨some 24, none, .bin .add (.t 22) (.t 23)⟩,
    ⟨some 25, none, .nchk (.t 18)⟩,
    ⟨some 26, none, .faddr 0 (.t 25)⟩,
    ⟨none, none, .store 1 (.t 26) (.t 24)⟩] none)
   (.seq
    (.region [
     ⟨some 4, none, .mv (.c (.int .i64 0))⟩] none)
    .ret))))⟩
theorem nf25_ok : compF Try.prog 25 = some nf25 := by kernel_rfl

/-- (*comitia/disk.Disk).size -/
def nf26 : NF := ⟨30, [.tmp 2],
 (.seq
 (.region [
  ⟨some 2, none, .mv (.c (.int .i64 0))⟩] none)
 (.scope (.seq
   (.region [
    ⟨some 5, none, .mv (.t 0)⟩,
    ⟨some 6, none, .nchk (.t 5)⟩,
    ⟨some 7, none, .faddr 0 (.t 6)⟩,
    ⟨some 8, none, .load false 1 (.t 7)⟩,
    ⟨some 9, none, .len .str (.t 8)⟩,
    ⟨some 3, none, .mv (.t 9)⟩,
    ⟨some 4, none, .mv (.c (.int .i64 0))⟩] none)
   (.seq
    (.label 0)
    (.seq
     (.seq
      (.region [
       ⟨some 10, none, .mv (.t 4)⟩,
       ⟨some 11, none, .mv (.t 0)⟩,
       ⟨some 12, none, .nchk (.t 11)⟩,
       ⟨some 13, none, .faddr 1 (.t 12)⟩,
       ⟨some 14, none, .load false 1 (.t 13)⟩,
       ⟨some 15, none, .len .slc (.t 14)⟩,
       ⟨some 16, none, .bin .lss (.t 10) (.t 15)⟩] none)
      (.cond (.t 16)
       (.seq
        (.region [
         ⟨some 17, none, .mv (.t 3)⟩,
         ⟨some 18, none, .mv (.t 0)⟩,
         ⟨some 19, none, .nchk (.t 18)⟩,
         ⟨some 20, none, .faddr 1 (.t 19)⟩,
         ⟨some 21, none, .load false 1 (.t 20)⟩,
         ⟨some 22, none, .mv (.t 4)⟩,
         ⟨some 23, none, .iaddr (.slc 1) (.t 21) (.t 22)⟩,
         ⟨some 24, none, .load false 1 (.t 23)⟩,
         ⟨some 25, none, .len .str (.t 24)⟩,
         ⟨some 26, none, .bin .add (.t 17) (.t 25)⟩,
         ⟨some 3, none, .mv (.t 26)⟩] none)
        (.seq
         (.region [
          ⟨some 27, none, .mv (.t 4)⟩,
          ⟨some 28, none, .bin .add (.t 27) (.c (.int .i64 1))⟩,
          ⟨some 4, none, .mv (.t 28)⟩] none)
         (.goto 0)))
       .skip))
     (.seq
      (.region [
       ⟨some 29, none, .mv (.t 3)⟩,
       ⟨some 2, none, .mv (.t 29)⟩] none)
      .ret))))))⟩
theorem nf26_ok : compF Try.prog 26 = some nf26 := by kernel_rfl

def F : FuncId → Option NF
  | 3 => some nf3
  | 4 => some nf4
  | 5 => some nf5
  | 6 => some nf6
  | 7 => some nf7
  | 8 => some nf8
  | 9 => some nf9
  | 10 => some nf10
  | 11 => some nf11
  | 12 => some nf12
  | 13 => some nf13
  | 14 => some nf14
  | 15 => some nf15
  | 16 => some nf16
  | 17 => some nf17
  | 18 => some nf18
  | 19 => some nf19
  | 20 => some nf20
  | 21 => some nf21
  | 22 => some nf22
  | 23 => some nf23
  | 24 => some nf24
  | 25 => some nf25
  | 26 => some nf26
  | _ => none
theorem F_ok (f : FuncId) (nf : NF) (h : F f = some nf) : compF Try.prog f = some nf := by
  unfold F at h
  split at h
  · rw [← h]; exact nf3_ok
  · rw [← h]; exact nf4_ok
  · rw [← h]; exact nf5_ok
  · rw [← h]; exact nf6_ok
  · rw [← h]; exact nf7_ok
  · rw [← h]; exact nf8_ok
  · rw [← h]; exact nf9_ok
  · rw [← h]; exact nf10_ok
  · rw [← h]; exact nf11_ok
  · rw [← h]; exact nf12_ok
  · rw [← h]; exact nf13_ok
  · rw [← h]; exact nf14_ok
  · rw [← h]; exact nf15_ok
  · rw [← h]; exact nf16_ok
  · rw [← h]; exact nf17_ok
  · rw [← h]; exact nf18_ok
  · rw [← h]; exact nf19_ok
  · rw [← h]; exact nf20_ok
  · rw [← h]; exact nf21_ok
  · rw [← h]; exact nf22_ok
  · rw [← h]; exact nf23_ok
  · rw [← h]; exact nf24_ok
  · rw [← h]; exact nf25_ok
  · rw [← h]; exact nf26_ok
  · cases h
end Go.Proofs.Ytibpoeaableoeaa.Nv
