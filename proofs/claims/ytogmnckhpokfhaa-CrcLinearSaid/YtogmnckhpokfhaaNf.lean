/- The functions that these statements reach, with their static parts reckoned; that they are the program's. -/
import Derived.Test.YtogmnckhpokfhaaNvCall
import Derived.Test.YtogmnckhpokfhaaNvW
import Derived.Test.YtogmnckhpokfhaaChecked
import Derived.KernelRfl
namespace Go.Proofs.Ytogmnckhpokfhaa.Nv
open Go

/-- comitia/comitialaw01.CrcParts -/
def nf4 : NF := ⟨66, [.tmp 8],
 (.seq
 (.region [
  ⟨some 8, none, .mv (.c (.bool false))⟩] none)
 (.seq
  (.region [
   ⟨some 13, none, .call 7 []⟩,
   ⟨some 9, none, .mv (.t 13)⟩] none)
  (.seq
   (.seq
    (.region [
     ⟨some 14, none, .mv (.t 9)⟩,
     ⟨some 15, none, .un .not (.t 14)⟩] none)
    (.cond (.t 15)
     (.seq
      (.region [
       ⟨some 8, none, .mv (.c (.bool false))⟩] none)
      .ret)
     .skip))
   (.seq
    (.region [
     ⟨some 16, none, .mv (.t 0)⟩,
     ⟨some 17, none, .mv (.t 1)⟩,
     ⟨some 18, none, .bin .add (.t 16) (.t 17)⟩,
     ⟨some 10, none, .mv (.t 18)⟩] none)
    (.seq
     (.region [
      ⟨some 19, none, .mv (.t 10)⟩,
      ⟨some 20, none, .call 9 [(.t 19)]⟩,
      ⟨some 11, none, .mv (.t 20)⟩] none)
     (.seq
      (.seq
       (.region [
        ⟨some 21, none, .mv (.t 0)⟩,
        ⟨some 22, none, .call 9 [(.t 21)]⟩,
        ⟨some 23, none, .mv (.t 1)⟩,
        ⟨some 24, none, .call 10 [(.t 22), (.t 23)]⟩,
        ⟨some 25, none, .mv (.t 11)⟩,
        ⟨some 26, none, .bin .neq (.t 24) (.t 25)⟩,
        ⟨some 27, none, .mv (.t 26)⟩,
        ⟨some 28, some (27, false), .mv (.t 11)⟩,
        ⟨some 29, some (27, false), .call 10 [(.t 28), (.c (.str ByteArray.empty))]⟩,
        ⟨some 30, some (27, false), .mv (.t 11)⟩,
        ⟨some 31, some (27, false), .bin .neq (.t 29) (.t 30)⟩,
        ⟨some 32, none, .pick (.t 27) (.c (.bool true)) (.t 31)⟩] none)
       (.cond (.t 32)
        (.seq
         (.region [
          ⟨some 8, none, .mv (.c (.bool false))⟩] none)
         .ret)
        .skip))
      (.seq
       (.seq
        (.region [
         ⟨some 33, none, .mv (.t 10)⟩,
         ⟨some 34, none, .bin .eql (.t 33) (.c (.str ByteArray.empty))⟩] none)
        (.cond (.t 34)
         (.seq
          (.region [
           ⟨some 35, none, .mv (.t 9)⟩,
           ⟨some 8, none, .mv (.t 35)⟩] none)
          .ret)
         .skip))
       (.seq
        (.region [
         ⟨some 36, none, .mv (.t 10)⟩,
         ⟨some 37, none, .s2b (.t 36)⟩,
         ⟨some 12, none, .mv (.t 37)⟩] none)
        (.seq
         (.region [
          ⟨some 38, none, .mv (.t 12)⟩,
          ⟨some 39, none, .mv (.t 2)⟩,
          ⟨some 40, none, .i2i .i64 (.t 39)⟩,
          ⟨some 41, none, .mv (.t 12)⟩,
          ⟨some 42, none, .len .slc (.t 41)⟩,
          ⟨some 43, none, .bin .rem (.t 40) (.t 42)⟩,
          ⟨some 44, none, .iaddr (.slc 1) (.t 38) (.t 43)⟩,
          ⟨some 45, none, .load false 1 (.t 44)⟩,
          ⟨some 46, none, .mv (.t 3)⟩,
          ⟨some 47, none, .bin .rem (.t 46) (.c (.int .u8 8))⟩,
          ⟨some 48, none, .bin .shl (.c (.int .u8 1)) (.t 47)⟩,
          ⟨some 49, none, .bin .xor (.t 45) (.t 48)⟩,
          ⟨some 50, none, .iaddr (.slc 1) (.t 38) (.t 43)⟩,
          ⟨none, none, .store 1 (.t 50) (.t 49)⟩] none)
         (.seq
          (.region [
           ⟨some 51, none, .mv (.t 9)⟩,
           ⟨some 52, none, .mv (.t 51)⟩,
           ⟨some 53, some (52, true), .mv (.t 12)⟩,
           ⟨some 54, some (52, true), .b2s (.t 53)⟩,
           ⟨some 55, some (52, true), .call 9 [(.t 54)]⟩,
           ⟨some 56, some (52, true), .mv (.t 11)⟩,
           ⟨some 57, some (52, true), .bin .neq (.t 55) (.t 56)⟩,
           ⟨some 58, none, .pick (.t 52) (.t 57) (.c (.bool false))⟩,
           ⟨some 59, none, .mv (.t 58)⟩,
           ⟨some 60, some (59, true), .mv (.t 12)⟩,
           ⟨some 61, some (59, true), .b2s (.t 60)⟩,
           ⟨some 62, some (59, true), .mv (.t 11)⟩,
           ⟨some 63, some (59, true), .call 12 [(.t 61), (.t 62)]⟩,
           ⟨some 64, some (59, true), .un .not (.t 63)⟩,
           ⟨some 65, none, .pick (.t 59) (.t 64) (.c (.bool false))⟩,
           ⟨some 8, none, .mv (.t 65)⟩] none)
          .ret))))))))))⟩
theorem nf4_ok : compF Try.prog 4 = some nf4 := by kernel_rfl

/-- comitia/comitialaw01.CrcBursts -/
def nf5 : NF := ⟨97, [.tmp 6],
 (.seq
 (.region [
  ⟨some 6, none, .mv (.c (.bool false))⟩] none)
 (.seq
  (.region [
   ⟨some 15, none, .call 7 []⟩,
   ⟨some 7, none, .mv (.t 15)⟩] none)
  (.seq
   (.seq
    (.region [
     ⟨some 16, none, .mv (.t 7)⟩,
     ⟨some 17, none, .un .not (.t 16)⟩] none)
    (.cond (.t 17)
     (.seq
      (.region [
       ⟨some 6, none, .mv (.c (.bool false))⟩] none)
      .ret)
     .skip))
   (.seq
    (.region [
     ⟨some 18, none, .mv (.t 0)⟩,
     ⟨some 19, none, .bin .add (.t 18) (.c (.str ⟨#[49, 50, 51, 52, 53, 54, 55, 56]⟩))⟩,
     ⟨some 20, none, .s2b (.t 19)⟩,
     ⟨some 8, none, .mv (.t 20)⟩] none)
    (.seq
     (.region [
      ⟨some 21, none, .mv (.t 8)⟩,
      ⟨some 22, none, .b2s (.t 21)⟩,
      ⟨some 23, none, .call 9 [(.t 22)]⟩,
      ⟨some 9, none, .mv (.t 23)⟩] none)
     (.seq
      (.region [
       ⟨some 24, none, .mv (.t 1)⟩,
       ⟨some 25, none, .i2i .i64 (.t 24)⟩,
       ⟨some 26, none, .mv (.t 8)⟩,
       ⟨some 27, none, .len .slc (.t 26)⟩,
       ⟨some 28, none, .bin .sub (.t 27) (.c (.int .i64 4))⟩,
       ⟨some 29, none, .bin .rem (.t 25) (.t 28)⟩,
       ⟨some 10, none, .mv (.t 29)⟩] none)
      (.seq
       (.seq
        (.region [
         ⟨some 11, none, .mv (.c (.int .i64 0))⟩] none)
        (.block 0 (.loop (.seq
           (.seq
            (.region [
             ⟨some 30, none, .mv (.t 11)⟩,
             ⟨some 31, none, .bin .lss (.t 30) (.c (.int .i64 4))⟩] none)
            (.cond (.t 31)
             .skip
             (.exit 0)))
           (.seq
            (.block 1 (.region [
              ⟨some 34, none, .mv (.t 8)⟩,
              ⟨some 35, none, .mv (.t 10)⟩,
              ⟨some 36, none, .mv (.t 11)⟩,
              ⟨some 37, none, .bin .add (.t 35) (.t 36)⟩,
              ⟨some 38, none, .iaddr (.slc 1) (.t 34) (.t 37)⟩,
              ⟨some 39, none, .load false 1 (.t 38)⟩,
              ⟨some 40, none, .mv (.t 2)⟩,
              ⟨some 41, none, .mv (.t 11)⟩,
              ⟨some 42, none, .bin .mul (.c (.int .i64 8)) (.t 41)⟩,
              ⟨some 43, none, .bin .shr (.t 40) (.t 42)⟩,
              ⟨some 44, none, .i2i .u8 (.t 43)⟩,
              ⟨some 45, none, .bin .xor (.t 39) (.t 44)⟩,
              ⟨some 46, none, .iaddr (.slc 1) (.t 34) (.t 37)⟩,
              ⟨none, none, .store 1 (.t 46) (.t 45)⟩] (some (11, [0, 0, 0, 6, 15, 31, 0, 0, 128, 448, 960, 2047, 4095, 8191]))))
            (.region [
             ⟨some 32, none, .mv (.t 11)⟩,
             ⟨some 33, none, .bin .add (.t 32) (.c (.int .i64 1))⟩,
             ⟨some 11, none, .mv (.t 33)⟩] none))))))
       (.seq
        (.region [
         ⟨some 47, none, .mv (.t 8)⟩,
         ⟨some 48, none, .b2s (.t 47)⟩,
         ⟨some 49, none, .call 9 [(.t 48)]⟩,
         ⟨some 12, none, .mv (.t 49)⟩] none)
        (.seq
         (.region [
          ⟨some 50, none, .mv (.t 0)⟩,
          ⟨some 51, none, .bin .add (.t 50) (.c (.str ⟨#[49, 50, 51, 52, 53, 54, 55, 56]⟩))⟩,
          ⟨some 52, none, .s2b (.t 51)⟩,
          ⟨some 13, none, .mv (.t 52)⟩] none)
         (.seq
          (.region [
           ⟨some 53, none, .mv (.t 13)⟩,
           ⟨some 54, none, .mv (.t 10)⟩,
           ⟨some 55, none, .iaddr (.slc 1) (.t 53) (.t 54)⟩,
           ⟨some 56, none, .load false 1 (.t 55)⟩,
           ⟨some 14, none, .mv (.t 56)⟩] none)
          (.seq
           (.region [
            ⟨some 57, none, .mv (.t 13)⟩,
            ⟨some 58, none, .mv (.t 10)⟩,
            ⟨some 59, none, .mv (.t 13)⟩,
            ⟨some 60, none, .mv (.t 10)⟩,
            ⟨some 61, none, .bin .add (.t 60) (.c (.int .i64 1))⟩,
            ⟨some 62, none, .iaddr (.slc 1) (.t 59) (.t 61)⟩,
            ⟨some 63, none, .load false 1 (.t 62)⟩,
            ⟨some 64, none, .iaddr (.slc 1) (.t 57) (.t 58)⟩,
            ⟨none, none, .store 1 (.t 64) (.t 63)⟩] none)
           (.seq
            (.region [
             ⟨some 65, none, .mv (.t 13)⟩,
             ⟨some 66, none, .mv (.t 10)⟩,
             ⟨some 67, none, .bin .add (.t 66) (.c (.int .i64 1))⟩,
             ⟨some 68, none, .mv (.t 14)⟩,
             ⟨some 69, none, .iaddr (.slc 1) (.t 65) (.t 67)⟩,
             ⟨none, none, .store 1 (.t 69) (.t 68)⟩] none)
            (.seq
             (.region [
              ⟨some 70, none, .mv (.t 7)⟩,
              ⟨some 71, none, .mv (.t 70)⟩,
              ⟨some 72, some (71, true), .mv (.t 12)⟩,
              ⟨some 73, some (71, true), .mv (.t 9)⟩,
              ⟨some 74, some (71, true), .bin .eql (.t 72) (.t 73)⟩,
              ⟨some 75, some (71, true), .mv (.t 2)⟩,
              ⟨some 76, some (71, true), .bin .eql (.t 75) (.c (.int .u32 0))⟩,
              ⟨some 77, some (71, true), .eq (.key ⟨false, [.bool]⟩) false (.t 74) (.t 76)⟩,
              ⟨some 78, none, .pick (.t 71) (.t 77) (.c (.bool false))⟩,
              ⟨some 79, none, .mv (.t 78)⟩,
              ⟨some 80, some (79, true), .mv (.t 13)⟩,
              ⟨some 81, some (79, true), .b2s (.t 80)⟩,
              ⟨some 82, some (79, true), .call 9 [(.t 81)]⟩,
              ⟨some 83, some (79, true), .mv (.t 9)⟩,
              ⟨some 84, some (79, true), .bin .eql (.t 82) (.t 83)⟩,
              ⟨some 85, some (79, true), .mv (.t 13)⟩,
              ⟨some 86, some (79, true), .mv (.t 10)⟩,
              ⟨some 87, some (79, true), .iaddr (.slc 1) (.t 85) (.t 86)⟩,
              ⟨some 88, some (79, true), .load false 1 (.t 87)⟩,
              ⟨some 89, some (79, true), .mv (.t 13)⟩,
              ⟨some 90, some (79, true), .mv (.t 10)⟩,
              ⟨some 91, some (79, true), .bin .add (.t 90) (.c (.int .i64 1))⟩,
              ⟨some 92, some (79, true), .iaddr (.slc 1) (.t 89) (.t 91)⟩,
              ⟨some 93, some (79, true), .load false 1 (.t 92)⟩,
              ⟨some 94, some (79, true), .bin .eql (.t 88) (.t 93)⟩,
              ⟨some 95, some (79, true), .eq (.key ⟨false, [.bool]⟩) false (.t 84) (.t 94)⟩,
              ⟨some 96, none, .pick (.t 79) (.t 95) (.c (.bool false))⟩,
              ⟨some 6, none, .mv (.t 96)⟩] (some (25, [0, 1, 3, 3, 15, 3, 35, 127, 255, 511, 1023, 2047, 4095, 1023, 16383, 1023, 1023, 99327, 230399, 1023, 1023, 1049599, 3671039, 7865343, 16745471, 33554431, 67108863, 134217727])))
             .ret)))))))))))))⟩
theorem nf5_ok : compF Try.prog 5 = some nf5 := by kernel_rfl

/-- comitia/comitialaw01.CrcLinear -/
def nf6 : NF := ⟨73, [.tmp 6],
 (.seq
 (.region [
  ⟨some 6, none, .mv (.c (.bool false))⟩] none)
 (.seq
  (.region [
   ⟨some 13, none, .call 7 []⟩,
   ⟨some 7, none, .mv (.t 13)⟩] none)
  (.seq
   (.seq
    (.region [
     ⟨some 14, none, .mv (.t 7)⟩,
     ⟨some 15, none, .un .not (.t 14)⟩] none)
    (.cond (.t 15)
     (.seq
      (.region [
       ⟨some 6, none, .mv (.c (.bool false))⟩] none)
      .ret)
     .skip))
   (.seq
    (.region [
     ⟨some 16, none, .mv (.t 0)⟩,
     ⟨some 17, none, .len .str (.t 16)⟩,
     ⟨some 18, none, .mv (.t 1)⟩,
     ⟨some 19, none, .len .str (.t 18)⟩,
     ⟨some 20, none, .mv (.t 2)⟩,
     ⟨some 21, none, .len .str (.t 20)⟩,
     ⟨some 22, none, .mm false [(.t 17), (.t 19), (.t 21)]⟩,
     ⟨some 8, none, .mv (.t 22)⟩] none)
    (.seq
     (.region [
      ⟨some 23, none, .mv (.t 0)⟩,
      ⟨some 24, none, .mv (.t 8)⟩,
      ⟨some 25, none, .slice .str (.t 23) none (some (.t 24)) none⟩,
      ⟨some 26, none, .s2b (.t 25)⟩,
      ⟨some 9, none, .mv (.t 26)⟩] none)
     (.seq
      (.region [
       ⟨some 27, none, .mv (.t 1)⟩,
       ⟨some 28, none, .mv (.t 8)⟩,
       ⟨some 29, none, .slice .str (.t 27) none (some (.t 28)) none⟩,
       ⟨some 30, none, .s2b (.t 29)⟩,
       ⟨some 10, none, .mv (.t 30)⟩] none)
      (.seq
       (.region [
        ⟨some 31, none, .mv (.t 9)⟩,
        ⟨some 32, none, .b2s (.t 31)⟩,
        ⟨some 33, none, .call 9 [(.t 32)]⟩,
        ⟨some 34, none, .mv (.t 10)⟩,
        ⟨some 35, none, .b2s (.t 34)⟩,
        ⟨some 36, none, .call 9 [(.t 35)]⟩,
        ⟨some 37, none, .bin .xor (.t 33) (.t 36)⟩,
        ⟨some 11, none, .mv (.t 37)⟩] (some (5, [0, 1, 3, 0, 8, 31, 63, 127])))
       (.seq
        (.seq
         (.region [
          ⟨some 12, none, .mv (.c (.int .i64 0))⟩] none)
         (.block 0 (.loop (.seq
            (.seq
             (.region [
              ⟨some 38, none, .mv (.t 12)⟩,
              ⟨some 39, none, .mv (.t 8)⟩,
              ⟨some 40, none, .bin .lss (.t 38) (.t 39)⟩] none)
             (.cond (.t 40)
              .skip
              (.exit 0)))
            (.seq
             (.block 1 (.seq
               (.region [
                ⟨some 43, none, .mv (.t 9)⟩,
                ⟨some 44, none, .mv (.t 12)⟩,
                ⟨some 45, none, .iaddr (.slc 1) (.t 43) (.t 44)⟩,
                ⟨some 46, none, .load false 1 (.t 45)⟩,
                ⟨some 47, none, .mv (.t 2)⟩,
                ⟨some 48, none, .mv (.t 12)⟩,
                ⟨some 49, none, .index .str false (.t 47) (.t 48)⟩,
                ⟨some 50, none, .bin .xor (.t 46) (.t 49)⟩,
                ⟨some 51, none, .iaddr (.slc 1) (.t 43) (.t 44)⟩,
                ⟨none, none, .store 1 (.t 51) (.t 50)⟩] (some (7, [0, 0, 3, 7, 0, 0, 48, 127, 255, 511])))
               (.region [
                ⟨some 52, none, .mv (.t 10)⟩,
                ⟨some 53, none, .mv (.t 12)⟩,
                ⟨some 54, none, .iaddr (.slc 1) (.t 52) (.t 53)⟩,
                ⟨some 55, none, .load false 1 (.t 54)⟩,
                ⟨some 56, none, .mv (.t 2)⟩,
                ⟨some 57, none, .mv (.t 12)⟩,
                ⟨some 58, none, .index .str false (.t 56) (.t 57)⟩,
                ⟨some 59, none, .bin .xor (.t 55) (.t 58)⟩,
                ⟨some 60, none, .iaddr (.slc 1) (.t 52) (.t 53)⟩,
                ⟨none, none, .store 1 (.t 60) (.t 59)⟩] (some (7, [0, 0, 3, 7, 0, 0, 48, 127, 255, 511])))))
             (.region [
              ⟨some 41, none, .mv (.t 12)⟩,
              ⟨some 42, none, .bin .add (.t 41) (.c (.int .i64 1))⟩,
              ⟨some 12, none, .mv (.t 42)⟩] none))))))
        (.seq
         (.region [
          ⟨some 61, none, .mv (.t 7)⟩,
          ⟨some 62, none, .mv (.t 61)⟩,
          ⟨some 63, some (62, true), .mv (.t 9)⟩,
          ⟨some 64, some (62, true), .b2s (.t 63)⟩,
          ⟨some 65, some (62, true), .call 9 [(.t 64)]⟩,
          ⟨some 66, some (62, true), .mv (.t 10)⟩,
          ⟨some 67, some (62, true), .b2s (.t 66)⟩,
          ⟨some 68, some (62, true), .call 9 [(.t 67)]⟩,
          ⟨some 69, some (62, true), .bin .xor (.t 65) (.t 68)⟩,
          ⟨some 70, some (62, true), .mv (.t 11)⟩,
          ⟨some 71, some (62, true), .bin .eql (.t 69) (.t 70)⟩,
          ⟨some 72, none, .pick (.t 62) (.t 71) (.c (.bool false))⟩,
          ⟨some 6, none, .mv (.t 72)⟩] (some (10, [0, 1, 3, 7, 15, 3, 35, 127, 255, 3, 1023, 2047, 4095])))
         .ret)))))))))⟩
theorem nf6_ok : compF Try.prog 6 = some nf6 := by kernel_rfl

/-- comitia/comitialaw01.examples -/
def nf7 : NF := ⟨19, [.tmp 0],
 (.seq
 (.region [
  ⟨some 0, none, .mv (.c (.bool false))⟩] none)
 (.seq
  (.region [
   ⟨some 1, none, .call 9 [(.c (.str ⟨#[49, 50, 51, 52, 53, 54, 55, 56, 57]⟩))]⟩,
   ⟨some 2, none, .bin .eql (.t 1) (.c (.int .u32 3808858755))⟩,
   ⟨some 3, none, .mv (.t 2)⟩,
   ⟨some 4, some (3, true), .call 9 [(.c (.str ByteArray.empty))]⟩,
   ⟨some 5, some (3, true), .bin .eql (.t 4) (.c (.int .u32 0))⟩,
   ⟨some 6, none, .pick (.t 3) (.t 5) (.c (.bool false))⟩,
   ⟨some 7, none, .mv (.t 6)⟩,
   ⟨some 8, some (7, true), .call 9 [(.c (.str ⟨#[49, 50, 51, 52]⟩))]⟩,
   ⟨some 9, some (7, true), .call 10 [(.t 8), (.c (.str ⟨#[53, 54, 55, 56, 57]⟩))]⟩,
   ⟨some 10, some (7, true), .bin .eql (.t 9) (.c (.int .u32 3808858755))⟩,
   ⟨some 11, none, .pick (.t 7) (.t 10) (.c (.bool false))⟩,
   ⟨some 12, none, .mv (.t 11)⟩,
   ⟨some 13, some (12, true), .call 12 [(.c (.str ⟨#[49, 50, 51, 52, 53, 54, 55, 56, 57]⟩)), (.c (.int .u32 3808858755))]⟩,
   ⟨some 14, none, .pick (.t 12) (.t 13) (.c (.bool false))⟩,
   ⟨some 15, none, .mv (.t 14)⟩,
   ⟨some 16, some (15, true), .call 12 [(.c (.str ⟨#[120]⟩)), (.c (.int .u32 0))]⟩,
   ⟨some 17, some (15, true), .un .not (.t 16)⟩,
   ⟨some 18, none, .pick (.t 15) (.t 17) (.c (.bool false))⟩,
   ⟨some 0, none, .mv (.t 18)⟩] none)
  .ret))⟩
theorem nf7_ok : compF Try.prog 7 = some nf7 := by kernel_rfl

/-- comitia/crc.Sum -/
def nf9 : NF := ⟨5, [.tmp 2],
 (.seq
 (.region [
  ⟨some 2, none, .mv (.c (.int .u32 0))⟩] none)
 (.seq
  (.region [
   ⟨some 3, none, .mv (.t 0)⟩,
   ⟨some 4, none, .call 10 [(.c (.int .u32 0)), (.t 3)]⟩,
   ⟨some 2, none, .mv (.t 4)⟩] none)
  .ret))⟩
theorem nf9_ok : compF Try.prog 9 = some nf9 := by kernel_rfl

/-- comitia/crc.Add -/
def nf10 : NF := ⟨37, [.tmp 4],
 (.seq
 (.region [
  ⟨some 4, none, .mv (.c (.int .u32 0))⟩] none)
 (.scope (.seq
   (.region [
    ⟨some 7, none, .mv (.t 0)⟩,
    ⟨some 8, none, .un .xor (.t 7)⟩,
    ⟨some 0, none, .mv (.t 8)⟩] none)
   (.seq
    (.region [
     ⟨some 5, none, .mv (.c (.int .i64 0))⟩,
     ⟨some 6, none, .mv (.c (.int .i64 0))⟩] none)
    (.seq
     (.label 0)
     (.seq
      (.seq
       (.region [
        ⟨some 9, none, .mv (.t 5)⟩,
        ⟨some 10, none, .mv (.t 1)⟩,
        ⟨some 11, none, .len .str (.t 10)⟩,
        ⟨some 12, none, .bin .eql (.t 9) (.t 11)⟩] none)
       (.cond (.t 12)
        (.seq
         (.region [
          ⟨some 13, none, .mv (.t 0)⟩,
          ⟨some 14, none, .un .xor (.t 13)⟩,
          ⟨some 4, none, .mv (.t 14)⟩] none)
         .ret)
        .skip))
      (.seq
       (.seq
        (.region [
         ⟨some 15, none, .mv (.t 6)⟩,
         ⟨some 16, none, .bin .eql (.t 15) (.c (.int .i64 0))⟩] none)
        (.cond (.t 16)
         (.region [
          ⟨some 17, none, .mv (.t 0)⟩,
          ⟨some 18, none, .mv (.t 1)⟩,
          ⟨some 19, none, .mv (.t 5)⟩,
          ⟨some 20, none, .index .str false (.t 18) (.t 19)⟩,
          ⟨some 21, none, .i2i .u32 (.t 20)⟩,
          ⟨some 22, none, .bin .xor (.t 17) (.t 21)⟩,
          ⟨some 0, none, .mv (.t 22)⟩] none)
         .skip))
       (.seq
        (.region [
         ⟨some 23, none, .mv (.t 0)⟩,
         ⟨some 24, none, .bin .shr (.t 23) (.c (.int .u64 1))⟩,
         ⟨some 25, none, .mv (.t 0)⟩,
         ⟨some 26, none, .bin .and (.t 25) (.c (.int .u32 1))⟩,
         ⟨some 27, none, .un .neg (.t 26)⟩,
         ⟨some 28, none, .bin .and (.c (.int .u32 2197175160)) (.t 27)⟩,
         ⟨some 29, none, .bin .xor (.t 24) (.t 28)⟩,
         ⟨some 0, none, .mv (.t 29)⟩] none)
        (.seq
         (.seq
          (.region [
           ⟨some 30, none, .mv (.t 6)⟩,
           ⟨some 31, none, .bin .add (.t 30) (.c (.int .i64 1))⟩,
           ⟨some 32, none, .bin .rem (.t 31) (.c (.int .i64 8))⟩,
           ⟨some 6, none, .mv (.t 32)⟩] none)
          (.seq
           (.region [
            ⟨some 33, none, .mv (.t 6)⟩,
            ⟨some 34, none, .bin .eql (.t 33) (.c (.int .i64 0))⟩] none)
           (.cond (.t 34)
            (.region [
             ⟨some 35, none, .mv (.t 5)⟩,
             ⟨some 36, none, .bin .add (.t 35) (.c (.int .i64 1))⟩,
             ⟨some 5, none, .mv (.t 36)⟩] none)
            .skip)))
         (.goto 0))))))))))⟩
theorem nf10_ok : compF Try.prog 10 = some nf10 := by kernel_rfl

/-- comitia/crc.Check -/
def nf12 : NF := ⟨9, [.tmp 4],
 (.seq
 (.region [
  ⟨some 4, none, .mv (.c (.bool false))⟩] none)
 (.seq
  (.region [
   ⟨some 5, none, .mv (.t 0)⟩,
   ⟨some 6, none, .call 9 [(.t 5)]⟩,
   ⟨some 7, none, .mv (.t 1)⟩,
   ⟨some 8, none, .bin .eql (.t 6) (.t 7)⟩,
   ⟨some 4, none, .mv (.t 8)⟩] none)
  .ret))⟩
theorem nf12_ok : compF Try.prog 12 = some nf12 := by kernel_rfl

def F : FuncId → Option NF
  | 4 => some nf4
  | 5 => some nf5
  | 6 => some nf6
  | 7 => some nf7
  | 9 => some nf9
  | 10 => some nf10
  | 12 => some nf12
  | _ => none
theorem F_ok (f : FuncId) (nf : NF) (h : F f = some nf) : compF Try.prog f = some nf := by
  unfold F at h
  split at h
  · rw [← h]; exact nf4_ok
  · rw [← h]; exact nf5_ok
  · rw [← h]; exact nf6_ok
  · rw [← h]; exact nf7_ok
  · rw [← h]; exact nf9_ok
  · rw [← h]; exact nf10_ok
  · rw [← h]; exact nf12_ok
  · cases h
end Go.Proofs.Ytogmnckhpokfhaa.Nv
