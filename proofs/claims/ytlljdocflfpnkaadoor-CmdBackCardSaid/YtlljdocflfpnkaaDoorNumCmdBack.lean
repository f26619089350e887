import Derived.Test.YtlljdocflfpnkaaDoorPCmdBackx9
import Derived.Test.YtlljdocflfpnkaaDoorDigits
import Derived.Laws.Bits64b
namespace Go.Proofs.YtlljdocflfpnkaaDoor.NumCmdBack
open Go.RowKit Go.Proofs.YtlljdocflfpnkaaDoor.PCmdBack Go.Proofs.YtlljdocflfpnkaaDoorW.PrintWords Go.Proofs.YtlljdocflfpnkaaDoorW.PrintLast Go.Proofs.YtlljdocflfpnkaaDoor.Digits
-- what pack's Reader reads, over the printed functions of PCmdBack
set_option linter.unusedVariables false

theorem p256 (i : Nat) : (256 : Int) ^ i = ((2 ^ (8 * i) : Nat) : Int) := by
  rw [Nat.pow_mul]; exact (Int.natCast_pow 256 i).symm
theorem p256_le (i : Nat) (hi : i ≤ 7) : 2 ^ (8 * i) ≤ 72057594037927936 := Nat.pow_le_pow_right (n := 2) (by decide) (show 8 * i ≤ 56 by omega)
theorem nm_shl (b : Int) (i : Nat) (h0 : 0 ≤ b) (h1 : b ≤ 255) (hi : i ≤ 7) : shl .u64 (IntKind.u64.wrap b) (wrap64 (8 * (i : Int))) = b * 256 ^ i := by
  have e1 : IntKind.u64.wrap b = b := wrap_u64 h0 (by omega)
  have e2 : wrap64 (8 * (i : Int)) = ((8 * i : Nat) : Int) := by unfold wrap64; omega
  rw [e1, e2]
  have e3 : min (((8 * i : Nat) : Int).toNat) IntKind.u64.bits = 8 * i := by
    rw [Int.toNat_natCast]; exact Nat.min_eq_left (by show 8 * i ≤ 64; omega)
  unfold shl
  rw [e3]
  have e4 : (2 : Int) ^ (8 * i) = ((2 ^ (8 * i) : Nat) : Int) := (Int.natCast_pow 2 (8 * i)).symm
  rw [e4, p256]
  have hq := p256_le i hi
  obtain ⟨y, rfl⟩ := Int.eq_ofNat_of_zero_le h0
  have hy : y * 2 ^ (8 * i) ≤ 255 * 72057594037927936 := Nat.mul_le_mul (by omega) hq
  have e5 : ((y : Nat) : Int) * ((2 ^ (8 * i) : Nat) : Int) = ((y * 2 ^ (8 * i) : Nat) : Int) := (Int.natCast_mul _ _).symm
  rw [e5]
  generalize y * 2 ^ (8 * i) = z at hy
  exact wrap_u64 (by omega) (by omega)

theorem nm_or (acc b : Int) (i : Nat) (h0 : 0 ≤ b) (h1 : b ≤ 255) (hi : i ≤ 7) (ha : 0 ≤ acc) (hb : acc < 256 ^ i) : Go.bits .or .u64 acc (b * 256 ^ i) = acc + b * 256 ^ i := by
  obtain ⟨x, rfl⟩ := Int.eq_ofNat_of_zero_le ha
  obtain ⟨y, rfl⟩ := Int.eq_ofNat_of_zero_le h0
  rw [p256] at hb ⊢
  have hq := p256_le i hi
  have hx : x < 2 ^ (8 * i) := Int.ofNat_lt.mp hb
  have hy : 2 ^ (8 * i) * y ≤ 72057594037927936 * 255 := Nat.mul_le_mul hq (by omega)
  have e5 : ((y : Nat) : Int) * ((2 ^ (8 * i) : Nat) : Int) = ((2 ^ (8 * i) * y : Nat) : Int) := by rw [Int.natCast_mul, Int.mul_comm]
  rw [e5, bits_or_u64_nat x _ (by omega) (by omega), Nat.or_comm, ← Nat.two_pow_add_eq_or_of_lt hx, Nat.add_comm, Int.natCast_add]

def sumFrom (x : ByteArray) (i : Nat) : Nat → Int
  | 0 => 0
  | m + 1 => bt x (i : Int) * 256 ^ i + sumFrom x (i + 1) m

theorem nm_loop : ∀ (m i k : Nat) (acc : Int) (x : ByteArray) (s : ByteArray) (b : Bool), x.size = i + m → i + m ≤ 8 → 0 ≤ acc → acc < 256 ^ i → m < k →
    pack_Reader_Number.l0 k acc x (x.size : Int) (i : Int) s b = some (acc + sumFrom x i m, s, b)
  | 0, i, k, acc, x, s, b, hx, _, _, _, hk => by
    obtain ⟨k, rfl⟩ : ∃ j, k = j + 1 := ⟨k - 1, by omega⟩
    rw [pack_Reader_Number.l0, if_neg (by omega), sumFrom, Int.add_zero]
  | m + 1, i, k, acc, x, s, b, hx, h8, ha, hb, hk => by
    obtain ⟨k, rfl⟩ : ∃ j, k = j + 1 := ⟨k - 1, by omega⟩
    have r := bt_range x (i : Int)
    have w : wrap64 (i + 1 : Int) = ((i + 1 : Nat) : Int) := by unfold wrap64; omega
    have w8 : 0 ≤ wrap64 (8 * (i : Int)) := by unfold wrap64; omega
    have hp : (0 : Int) < 256 ^ i := Int.pow_pos (by decide)
    rw [pack_Reader_Number.l0, if_pos (by omega), if_pos (by omega), if_pos (by omega), if_pos w8, nm_shl _ i r.1 r.2 (by omega), nm_or _ _ i r.1 r.2 (by omega) ha hb, w]
    have hmul : 0 ≤ bt x (i : Int) * 256 ^ i := Int.mul_nonneg r.1 (Int.le_of_lt hp)
    have hmul2 : bt x (i : Int) * 256 ^ i ≤ 255 * 256 ^ i := Int.mul_le_mul_of_nonneg_right r.2 (Int.le_of_lt hp)
    rw [nm_loop m (i + 1) k _ x s b (by omega) (by omega) (by omega) (by rw [Int.pow_succ]; omega) (by omega), sumFrom, Int.add_assoc]

theorem nm_bytes (k : Nat) (hk : 1 ≤ k) (s : ByteArray) (n : Int) (h0 : 0 ≤ n) (h1 : n ≤ s.size) : pack_Reader_Bytes.f k s false n = some (s.extract 0 n.toNat, s.extract n.toNat s.size, false) := by
  obtain ⟨k, rfl⟩ : ∃ j, k = j + 1 := ⟨k - 1, by omega⟩
  unfold pack_Reader_Bytes.f
  rw [if_neg (by decide), if_neg (by omega), decide_eq_false (by omega), pack_Reader_Bytes.j0, if_neg (by decide), if_pos h0, if_pos h1]
theorem nm_bytes_bad (k : Nat) (hk : 1 ≤ k) (s : ByteArray) (b : Bool) (n : Int) (h : b = true ∨ n < 0 ∨ (s.size : Int) < n) : pack_Reader_Bytes.f k s b n = some ((⟨#[]⟩ : ByteArray), (⟨#[]⟩ : ByteArray), true) := by
  obtain ⟨k, rfl⟩ : ∃ j, k = j + 1 := ⟨k - 1, by omega⟩
  unfold pack_Reader_Bytes.f
  by_cases hb : b = true
  · rw [if_pos hb, pack_Reader_Bytes.j0, if_pos rfl]
  · rw [if_neg hb]
    by_cases hn : n < 0
    · rw [if_pos hn, pack_Reader_Bytes.j0, if_pos rfl]
    · rw [if_neg hn, decide_eq_true (by rcases h with h | h | h <;> first | exact absurd h hb | omega), pack_Reader_Bytes.j0, if_pos rfl]

theorem nm_number (k : Nat) (hk : 12 ≤ k) (s : ByteArray) (n : Nat) (h0 : 1 ≤ n) (h8 : n ≤ 8) (h1 : n ≤ s.size) : pack_Reader_Number.f k s false n = some (sumFrom (s.extract 0 n) 0 n, s.extract n s.size, false) := by
  obtain ⟨k, rfl⟩ : ∃ j, k = j + 1 := ⟨k - 1, by omega⟩
  have hz : (s.extract 0 n).size = n := by rw [ByteArray.size_extract]; omega
  unfold pack_Reader_Number.f
  rw [if_neg (by omega), decide_eq_false (by omega), pack_Reader_Number.j0, if_neg (by decide), nm_bytes k (by omega) s n (by omega) (by omega), Option.bind_some, Int.toNat_natCast]
  have := nm_loop n 0 k 0 (s.extract 0 n) (s.extract n s.size) false (by omega) (by omega) (by omega) (by decide) (by omega)
  rw [Int.zero_add] at this
  exact this
theorem nm_number_bad (k : Nat) (hk : 12 ≤ k) (s : ByteArray) (b : Bool) (n : Nat) (h0 : 1 ≤ n) (h8 : n ≤ 8) (h : b = true ∨ (s.size : Int) < n) : pack_Reader_Number.f k s b n = some (0, (⟨#[]⟩ : ByteArray), true) := by
  obtain ⟨k, rfl⟩ : ∃ j, k = j + 1 := ⟨k - 1, by omega⟩
  unfold pack_Reader_Number.f
  rw [if_neg (by omega), decide_eq_false (by omega), pack_Reader_Number.j0, if_neg (by decide), nm_bytes_bad k (by omega) s b n (by rcases h with h | h <;> simp [h]), Option.bind_some]
  have := nm_loop 0 0 k 0 (⟨#[]⟩ : ByteArray) (⟨#[]⟩ : ByteArray) true rfl (by omega) (by omega) (by decide) (by omega)
  exact this

theorem nm_len : ∀ (n : Int) (k : Nat), (PCmdBack.leBytes n k).length = k
  | _, 0 => rfl
  | n, k + 1 => by rw [PCmdBack.leBytes, List.length_append, nm_len n k]; rfl
theorem nm_strsize (l : List Int) : (strOfNums l).size = l.length := by
  rw [size_toList]; unfold strOfNums; rw [mk_toList, List.length_map]
theorem nm_get : ∀ (n : Int) (k i : Nat), i < k → (PCmdBack.leBytes n k)[i]? = some (n / 256 ^ i % 256)
  | n, 0, i, h => absurd h (by omega)
  | n, k + 1, i, h => by
    rw [PCmdBack.leBytes]
    by_cases e : i < k
    · rw [List.getElem?_append_left (by rw [nm_len]; exact e), nm_get n k i e]
    · obtain rfl : i = k := by omega
      rw [List.getElem?_append_right (by rw [nm_len]; omega), nm_len, Nat.sub_self]; rfl
theorem nm_bt (n : Int) (k i : Nat) (h : i < k) : bt (strOfNums (PCmdBack.leBytes n k)) (i : Int) = n / 256 ^ i % 256 := by
  have hs : ((i : Int).toNat) < (strOfNums (PCmdBack.leBytes n k)).size := by rw [nm_strsize, nm_len]; omega
  have g := nm_get n k i h
  have hl : i < (PCmdBack.leBytes n k).length := by rw [nm_len]; exact h
  have g' : (PCmdBack.leBytes n k)[i] = n / 256 ^ i % 256 := by rw [List.getElem?_eq_getElem hl] at g; exact Option.some.inj g
  have hr : 0 ≤ n / 256 ^ i % 256 ∧ n / 256 ^ i % 256 < 256 := by omega
  unfold bt
  rw [dif_pos hs]
  have : (strOfNums (PCmdBack.leBytes n k))[(i : Int).toNat]'hs = UInt8.ofNat ((PCmdBack.leBytes n k)[i]).toNat := by
    have z : ((PCmdBack.leBytes n k).map fun z => UInt8.ofNat z.toNat).toArray[i]'(by rw [List.size_toArray, List.length_map]; exact hl) = UInt8.ofNat ((PCmdBack.leBytes n k)[i]).toNat := by simp
    exact z
  rw [this, g', UInt8.toNat_ofNat_of_lt' (by simp [UInt8.size]; omega)]
  omega
theorem nm_sum1 (n : Int) : sumFrom (strOfNums (PCmdBack.leBytes n 1)) 0 1 = n % 256 := by
  have b0 := nm_bt n 1 0 (by decide)
  have p0 : (256 : Int) ^ 0 = 1 := by decide
  show bt _ ((0 : Nat) : Int) * 256 ^ 0 + 0 = _
  rw [b0, p0]; omega
theorem nm_sum4 (n : Int) : sumFrom (strOfNums (PCmdBack.leBytes n 4)) 0 4 = n % 4294967296 := by
  have b0 := nm_bt n 4 0 (by decide)
  have b1 := nm_bt n 4 1 (by decide)
  have b2 := nm_bt n 4 2 (by decide)
  have b3 := nm_bt n 4 3 (by decide)
  have p0 : (256 : Int) ^ 0 = 1 := by decide
  have p1 : (256 : Int) ^ 1 = 256 := by decide
  have p2 : (256 : Int) ^ 2 = 65536 := by decide
  have p3 : (256 : Int) ^ 3 = 16777216 := by decide
  show bt _ ((0 : Nat) : Int) * 256 ^ 0 + (bt _ ((1 : Nat) : Int) * 256 ^ 1 + (bt _ ((2 : Nat) : Int) * 256 ^ 2 + (bt _ ((3 : Nat) : Int) * 256 ^ 3 + 0))) = _
  rw [b0, b1, b2, b3, p0, p1, p2, p3]; omega
theorem nm_sum2 (n : Int) : sumFrom (strOfNums (PCmdBack.leBytes n 2)) 0 2 = n % 65536 := by
  have b0 := nm_bt n 2 0 (by decide)
  have b1 := nm_bt n 2 1 (by decide)
  have p0 : (256 : Int) ^ 0 = 1 := by decide
  have p1 : (256 : Int) ^ 1 = 256 := by decide
  show bt _ ((0 : Nat) : Int) * 256 ^ 0 + (bt _ ((1 : Nat) : Int) * 256 ^ 1 + 0) = _
  rw [b0, b1, p0, p1]; omega
theorem nm_exl (s : ByteArray) (i j : Nat) : (s.extract i j).data.toList = (s.data.toList.drop i).take (j - i) := by
  rw [ByteArray.data_extract, Array.toList_extract]
theorem nm_ext0 (a b : ByteArray) (n : Nat) (h : n ≤ a.size) : (a ++ b).extract 0 n = a.extract 0 n := by
  apply Go.WideShapes.bytes_inj
  have hl : n ≤ a.data.toList.length := by rw [Array.length_toList]; exact h
  rw [nm_exl, nm_exl, ByteArray.data_append, Array.toList_append, List.drop_zero, List.drop_zero, List.take_append_of_le_length (by omega)]
theorem nm_ext1 (a b : ByteArray) (n : Nat) (h : n ≤ a.size) : (a ++ b).extract n (a ++ b).size = a.extract n a.size ++ b := by
  apply Go.WideShapes.bytes_inj
  have hl : a.data.toList.length = a.size := Array.length_toList
  have hb : b.data.toList.length = b.size := Array.length_toList
  rw [nm_exl, ByteArray.data_append, ByteArray.data_append, Array.toList_append, Array.toList_append, nm_exl, ByteArray.size_append, List.drop_append_of_le_length (by omega), List.take_of_length_le (by rw [List.length_append, List.length_drop]; omega), List.take_of_length_le (by rw [List.length_drop]; omega)]
end Go.Proofs.YtlljdocflfpnkaaDoor.NumCmdBack
