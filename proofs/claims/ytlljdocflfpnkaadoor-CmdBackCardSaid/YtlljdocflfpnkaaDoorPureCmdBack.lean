import Derived.Test.YtlljdocflfpnkaaDoorCmdCmdBack
namespace Go.Proofs.YtlljdocflfpnkaaDoor.Pure
open Go.RowKit Go.Proofs.YtlljdocflfpnkaaDoor.PCmdBack Go.Proofs.YtlljdocflfpnkaaDoorW.PrintWords Go.Proofs.YtlljdocflfpnkaaDoorW.PrintLast Go.Proofs.YtlljdocflfpnkaaDoor.Digits Go.Proofs.YtlljdocflfpnkaaDoor.NumCmdBack Go.Proofs.YtlljdocflfpnkaaDoor.CmdCmdBack
set_option linter.unusedVariables false
set_option maxRecDepth 100000 in
theorem ex300 : comitialaw07_examples.f 300 = some true := by decide +kernel

abbrev N (n : Int) (k : Nat) : ByteArray := strOfNums (PCmdBack.leBytes n k)
theorem N_size (n : Int) (k : Nat) : (N n k).size = k := by unfold N; rw [nm_strsize, nm_len]
def textB (s : ByteArray) : ByteArray := N (s.size : Int) 2 ++ s
def cmdB (o c s : Int) (key value : ByteArray) : ByteArray := N o 1 ++ N c 1 ++ N s 4 ++ textB key ++ textB value

theorem text_put (s : ByteArray) (h : s.size ≤ 100) : pack_Text.f s = some (textB s, true) := by
  have e : (strOfNums (PCmdBack.leBytes (s.size : Int) (2 : Int).toNat)).size = 2 := N_size _ 2
  unfold pack_Text.f pack_Number.f
  rw [if_neg (by omega), if_neg (by decide), if_neg (by decide), Option.bind_some, if_pos (by rw [e]; omega)]
  rfl

theorem wish_small {o c s : Int} {key value : ByteArray} (h : WishOk o c s key value) : (0 ≤ o ∧ o ≤ 3) ∧ (0 ≤ c ∧ c ≤ 4) ∧ (0 ≤ s ∧ s ≤ 5) ∧ key.size ≤ 1 ∧ value.size ≤ 8 := by
  rcases h with ⟨rfl, rfl, rfl, rfl, rfl⟩ | ⟨ho, hc, hs, hk1, hv, hx⟩
  · exact ⟨by omega, by omega, by omega, by decide, by decide⟩
  · exact ⟨by omega, by omega, by omega, by omega, hv⟩

theorem textB_size (s : ByteArray) : (textB s).size = 2 + s.size := by unfold textB; rw [ByteArray.size_append, N_size]

theorem bytes_eq (k : Nat) (hk : 2 ≤ k) {o c s : Int} {key value : ByteArray} (h : WishOk o c s key value) : cmd_Bytes.f k o c s key value = some (cmdB o c s key value, true) := by
  obtain ⟨b0, b1, b2, b3, b4⟩ := wish_small h
  have e1 : (strOfNums (PCmdBack.leBytes o (1 : Int).toNat)).size = 1 := N_size _ 1
  have e2 : (strOfNums (PCmdBack.leBytes c (1 : Int).toNat)).size = 1 := N_size _ 1
  have e3 : (strOfNums (PCmdBack.leBytes s (4 : Int).toNat)).size = 4 := N_size _ 4
  have e4 := textB_size key
  have e5 := textB_size value
  unfold cmd_Bytes.f
  rw [right_ok k hk _ _ _ _ _ h, Option.bind_some, if_pos rfl, text_put key (by omega), Option.bind_some, text_put value (by omega), Option.bind_some, wrap_u64 b0.1 (by omega), wrap_u64 b1.1 (by omega), wrap_u64 b2.1 (by omega)]
  unfold pack_Number.f
  rw [if_neg (by decide), if_neg (by decide), Option.bind_some, if_neg (by decide), if_neg (by decide), Option.bind_some, if_pos (by rw [e1, e2]; decide), if_neg (by decide), if_neg (by decide), Option.bind_some,
    if_pos (by simp only [ByteArray.size_append, e1, e2, e3]; decide), if_pos (by simp only [ByteArray.size_append, e1, e2, e3, e4]; omega), if_pos (by simp only [ByteArray.size_append, e1, e2, e3, e4, e5]; omega)]
  rfl

theorem cmdB_size (o c s : Int) (key value : ByteArray) : (cmdB o c s key value).size = 10 + key.size + value.size := by
  unfold cmdB; simp only [ByteArray.size_append, N_size, textB_size]; omega

/-- A number ahead of anything. -/
theorem num_at (k : Nat) (hk : 12 ≤ k) (n : Int) (m : Nat) (h0 : 1 ≤ m) (h8 : m ≤ 8) (t : ByteArray) : pack_Reader_Number.f k (N n m ++ t) false m = some (sumFrom (N n m) 0 m, t, false) := by
  rw [nm_number k hk _ m h0 h8 (by rw [ByteArray.size_append, N_size]; omega), ByteArray.extract_append_eq_left (N_size n m).symm, ByteArray.extract_append_eq_right (N_size n m).symm (by rw [ByteArray.size_append])]

theorem text_at (k : Nat) (hk : 12 ≤ k) (s t : ByteArray) (h : s.size ≤ 100) : pack_Reader_Text.f k (textB s ++ t) false = some (s, t, false) := by
  unfold pack_Reader_Text.f textB
  have n1 : pack_Reader_Number.f k (N (s.size : Int) 2 ++ (s ++ t)) false 2 = _ := num_at k hk (s.size : Int) 2 (by decide) (by decide) (s ++ t)
  rw [ByteArray.append_assoc, n1, Option.bind_some, nm_sum2]
  have w : wrap64 ((s.size : Int) % 65536) = (s.size : Int) := by unfold wrap64; omega
  show (pack_Reader_Bytes.f k (s ++ t) false (wrap64 ((s.size : Int) % 65536))).bind _ = _
  rw [w, nm_bytes k (by omega) _ _ (by omega) (by rw [ByteArray.size_append]; omega), Option.bind_some, Int.toNat_natCast, ByteArray.extract_append_eq_left rfl, ByteArray.extract_append_eq_right rfl (by rw [ByteArray.size_append])]

theorem read_ok {o c s : Int} {key value : ByteArray} (h : WishOk o c s key value) (rest : ByteArray) : cmd_Read.f 300 (cmdB o c s key value ++ rest) false = some (o, c, s, key, value, rest, false) := by
  obtain ⟨b0, b1, b2, b3, b4⟩ := wish_small h
  unfold cmd_Read.f cmdB
  simp only [ByteArray.append_assoc]
  have n1 : ∀ t, pack_Reader_Number.f 300 (N o 1 ++ t) false 1 = _ := fun t => num_at 300 (by decide) o 1 (by decide) (by decide) t
  have n2 : ∀ t, pack_Reader_Number.f 300 (N c 1 ++ t) false 1 = _ := fun t => num_at 300 (by decide) c 1 (by decide) (by decide) t
  have n3 : ∀ t, pack_Reader_Number.f 300 (N s 4 ++ t) false 4 = _ := fun t => num_at 300 (by decide) s 4 (by decide) (by decide) t
  rw [n1, Option.bind_some, n2, Option.bind_some, n3, Option.bind_some, text_at 300 (by decide) key _ (by omega), Option.bind_some, text_at 300 (by decide) value _ (by omega), Option.bind_some, if_neg (fun h => Bool.noConfusion h), nm_sum1, nm_sum1, nm_sum4]
  have w1 : wrap64 (o % 256) = o := by unfold wrap64; omega
  have w2 : wrap64 (c % 256) = c := by unfold wrap64; omega
  have w3 : s % 4294967296 % 4294967296 = s := by omega
  rw [w1, w2, w3, right_ok 300 (by decide) _ _ _ _ _ h, Option.bind_some, cmd_Read.j0]
  rfl

/-- What is bad stays so; what was read is read, whatever stands behind. -/
theorem num_more (k : Nat) (hk : 12 ≤ k) (s q : ByteArray) (b : Bool) (m : Nat) (h0 : 1 ≤ m) (h8 : m ≤ 8) :
    (∃ v t, pack_Reader_Number.f k s b m = some (v, t, false) ∧ b = false ∧ pack_Reader_Number.f k (s ++ q) b m = some (v, t ++ q, false)) ∨ ∃ v t, pack_Reader_Number.f k s b m = some (v, t, true) := by
  by_cases hb : b = true
  · exact Or.inr ⟨_, _, nm_number_bad k hk s b m h0 h8 (Or.inl hb)⟩
  · have hb : b = false := by cases b <;> simp_all
    subst hb
    by_cases hm : m ≤ s.size
    · refine Or.inl ⟨_, _, nm_number k hk s m h0 h8 hm, rfl, ?_⟩
      rw [nm_number k hk (s ++ q) m h0 h8 (by rw [ByteArray.size_append]; omega), nm_ext0 s q m hm, nm_ext1 s q m hm]
    · exact Or.inr ⟨_, _, nm_number_bad k hk s false m h0 h8 (Or.inr (by omega))⟩

theorem bytes_more (k : Nat) (hk : 1 ≤ k) (s q : ByteArray) (b : Bool) (n : Int) :
    (∃ v t, pack_Reader_Bytes.f k s b n = some (v, t, false) ∧ b = false ∧ pack_Reader_Bytes.f k (s ++ q) b n = some (v, t ++ q, false)) ∨ ∃ v t, pack_Reader_Bytes.f k s b n = some (v, t, true) := by
  by_cases hb : b = true
  · exact Or.inr ⟨_, _, nm_bytes_bad k hk s b n (Or.inl hb)⟩
  · have hb : b = false := by cases b <;> simp_all
    subst hb
    by_cases hm : 0 ≤ n ∧ n ≤ s.size
    · refine Or.inl ⟨_, _, nm_bytes k hk s n hm.1 hm.2, rfl, ?_⟩
      rw [nm_bytes k hk (s ++ q) n hm.1 (by rw [ByteArray.size_append]; omega), nm_ext0 s q n.toNat (by omega), nm_ext1 s q n.toNat (by omega)]
    · exact Or.inr ⟨_, _, nm_bytes_bad k hk s false n (Or.inr (by omega))⟩

theorem text_more (k : Nat) (hk : 12 ≤ k) (s q : ByteArray) (b : Bool) :
    (∃ v t, pack_Reader_Text.f k s b = some (v, t, false) ∧ b = false ∧ pack_Reader_Text.f k (s ++ q) b = some (v, t ++ q, false)) ∨ ∃ v t, pack_Reader_Text.f k s b = some (v, t, true) := by
  have P := num_more k hk s q b 2 (by decide) (by decide)
  unfold pack_Reader_Text.f
  rcases P with ⟨v, t, h1, hb, h2⟩ | ⟨v, t, h1⟩
  · have h1' : pack_Reader_Number.f k s b 2 = _ := h1
    have h2' : pack_Reader_Number.f k (s ++ q) b 2 = _ := h2
    rw [h1', h2', Option.bind_some, Option.bind_some]
    rcases bytes_more k (by omega) t q false (wrap64 v) with ⟨v', t', g1, _, g2⟩ | ⟨v', t', g1⟩
    · exact Or.inl ⟨v', t', by show (pack_Reader_Bytes.f k t false (wrap64 v)).bind _ = _; rw [g1]; rfl, hb, by show (pack_Reader_Bytes.f k (t ++ q) false (wrap64 v)).bind _ = _; rw [g2]; rfl⟩
    · exact Or.inr ⟨v', t', by show (pack_Reader_Bytes.f k t false (wrap64 v)).bind _ = _; rw [g1]; rfl⟩
  · have h1' : pack_Reader_Number.f k s b 2 = _ := h1
    rw [h1', Option.bind_some]
    have g := nm_bytes_bad k (by omega) t true (wrap64 v) (Or.inl rfl)
    exact Or.inr ⟨_, _, by show (pack_Reader_Bytes.f k t true (wrap64 v)).bind _ = _; rw [g]; rfl⟩

/-- Read comes to something; if it is not bad, the same is read whatever stands behind. -/
theorem read_more (s q : ByteArray) : ∃ x, cmd_Read.f 300 s false = some x ∧ (x.2.2.2.2.2.2 = false → cmd_Read.f 300 (s ++ q) false = some (x.1, x.2.1, x.2.2.1, x.2.2.2.1, x.2.2.2.2.1, x.2.2.2.2.2.1 ++ q, false)) := by
  have R : ∀ (a b c : Int) (d e : ByteArray), ∃ t, cmd_Right.f 300 a b c d e = some t := by
    intro a b c d e
    unfold cmd_Right.f
    have J1 : ∀ (x : Bool), ∃ t, cmd_Right.j1 299 x a b c d e = some t := by
      intro x; rw [cmd_Right.j1]; split
      · exact ⟨_, rfl⟩
      · split <;> exact ⟨_, rfl⟩
    have J1' : ∀ (x : Bool), ∃ t, cmd_Right.j0 300 x a b c d e = some t := by
      intro x; rw [cmd_Right.j0]; split
      · exact ⟨_, rfl⟩
      · split
        · exact J1 _
        · split
          · exact J1 _
          · exact J1 _
    split
    · exact ⟨_, rfl⟩
    · split
      · exact J1' _
      · split
        · exact J1' _
        · split
          · exact J1' _
          · split
            · exact J1' _
            · exact J1' _
  have bad : ∀ (y : ByteArray) (b : Bool) (u v w : Int) (d e : ByteArray), cmd_Read.j0 300 true y b u v w d e = some (0, 0, 0, (⟨#[]⟩ : ByteArray), (⟨#[]⟩ : ByteArray), (⟨#[]⟩ : ByteArray), true) := by
    intro y b u v w d e; rw [cmd_Read.j0, if_pos rfl]
  have good : ∀ (y : ByteArray) (b : Bool) (u v w : Int) (d e : ByteArray), cmd_Read.j0 300 false y b u v w d e = some (u, v, w, d, e, y, b) := by
    intro y b u v w d e; rw [cmd_Read.j0, if_neg (by decide)]
  have tbad : ∀ (t : ByteArray), ∃ v t', pack_Reader_Text.f 300 t true = some (v, t', true) := by
    intro t; rcases text_more 300 (by decide) t t true with ⟨_, _, _, h, _⟩ | h
    · cases h
    · exact h
  have nbad : ∀ (t : ByteArray) (m : Nat), 1 ≤ m → m ≤ 8 → ∃ v t', pack_Reader_Number.f 300 t true m = some (v, t', true) := fun t m h0 h8 => ⟨_, _, nm_number_bad 300 (by decide) t true m h0 h8 (Or.inl rfl)⟩
  have last : ∀ (a b c : Int) (d : ByteArray) (t : ByteArray), ∃ x, ((pack_Reader_Text.f 300 t true).bind fun bt148 => (if bt148.2.2 = true then (cmd_Read.j0 300 true bt148.2.1 bt148.2.2 a b c d bt148.1) else ((cmd_Right.f 300 a b c d bt148.1).bind fun t151 => (cmd_Read.j0 300 (!t151) bt148.2.1 bt148.2.2 a b c d bt148.1)))) = some x ∧ x.2.2.2.2.2.2 = true := by
    intro a b c d t
    obtain ⟨v, t', h⟩ := tbad t
    rw [h, Option.bind_some, if_pos rfl, bad]
    exact ⟨_, rfl, rfl⟩
  have no : ∀ {x : Int × Int × Int × ByteArray × ByteArray × ByteArray × Bool} {p : Prop}, x.2.2.2.2.2.2 = true → x.2.2.2.2.2.2 = false → p := by
    intro x p h1 h2; rw [h1] at h2; cases h2
  unfold cmd_Read.f
  rcases num_more 300 (by decide) s q false 1 (by decide) (by decide) with ⟨v1, t1, h1, _, g1⟩ | ⟨v1, t1, h1⟩
  · have h1' : pack_Reader_Number.f 300 s false 1 = _ := h1
    have g1' : pack_Reader_Number.f 300 (s ++ q) false 1 = _ := g1
    rw [h1', g1', Option.bind_some, Option.bind_some]
    rcases num_more 300 (by decide) t1 q false 1 (by decide) (by decide) with ⟨v2, t2, h2, _, g2⟩ | ⟨v2, t2, h2⟩
    · have h2' : pack_Reader_Number.f 300 (v1, t1, false).2.1 (v1, t1, false).2.2 1 = _ := h2
      have g2' : pack_Reader_Number.f 300 (v1, t1 ++ q, false).2.1 (v1, t1 ++ q, false).2.2 1 = _ := g2
      rw [h2', g2', Option.bind_some, Option.bind_some]
      rcases num_more 300 (by decide) t2 q false 4 (by decide) (by decide) with ⟨v3, t3, h3, _, g3⟩ | ⟨v3, t3, h3⟩
      · have h3' : pack_Reader_Number.f 300 (v2, t2, false).2.1 (v2, t2, false).2.2 4 = _ := h3
        have g3' : pack_Reader_Number.f 300 (v2, t2 ++ q, false).2.1 (v2, t2 ++ q, false).2.2 4 = _ := g3
        rw [h3', g3', Option.bind_some, Option.bind_some]
        rcases text_more 300 (by decide) t3 q false with ⟨v4, t4, h4, _, g4⟩ | ⟨v4, t4, h4⟩
        · have h4' : pack_Reader_Text.f 300 (v3, t3, false).2.1 (v3, t3, false).2.2 = _ := h4
          have g4' : pack_Reader_Text.f 300 (v3, t3 ++ q, false).2.1 (v3, t3 ++ q, false).2.2 = _ := g4
          rw [h4', g4', Option.bind_some, Option.bind_some]
          rcases text_more 300 (by decide) t4 q false with ⟨v5, t5, h5, _, g5⟩ | ⟨v5, t5, h5⟩
          · have h5' : pack_Reader_Text.f 300 (v4, t4, false).2.1 (v4, t4, false).2.2 = _ := h5
            have g5' : pack_Reader_Text.f 300 (v4, t4 ++ q, false).2.1 (v4, t4 ++ q, false).2.2 = _ := g5
            rw [h5', g5', Option.bind_some, Option.bind_some, if_neg (fun h => Bool.noConfusion h), if_neg (fun h => Bool.noConfusion h)]
            obtain ⟨t, ht⟩ := R (wrap64 v1) (wrap64 v2) (v3 % 4294967296) v4 v5
            have ht' : cmd_Right.f 300 (wrap64 (v1, t1, false).1) (wrap64 (v2, t2, false).1) ((v3, t3, false).1 % 4294967296) (v4, t4, false).1 (v5, t5, false).1 = _ := ht
            rw [ht', Option.bind_some, Option.bind_some]
            cases t
            · exact ⟨_, bad _ _ _ _ _ _ _, fun h => by cases h⟩
            · exact ⟨_, good _ _ _ _ _ _ _, fun _ => good _ _ _ _ _ _ _⟩
          · have h5' : pack_Reader_Text.f 300 (v4, t4, false).2.1 (v4, t4, false).2.2 = _ := h5
            rw [h5', Option.bind_some, if_pos rfl, bad]
            exact ⟨_, rfl, fun h => by cases h⟩
        · have h4' : pack_Reader_Text.f 300 (v3, t3, false).2.1 (v3, t3, false).2.2 = _ := h4
          rw [h4', Option.bind_some]
          obtain ⟨x, hx, bx⟩ := last (wrap64 v1) (wrap64 v2) (v3 % 4294967296) v4 t4
          exact ⟨x, hx, no bx⟩
      · have h3' : pack_Reader_Number.f 300 (v2, t2, false).2.1 (v2, t2, false).2.2 4 = _ := h3
        rw [h3', Option.bind_some]
        obtain ⟨v4, t4, h4⟩ := tbad t3
        have h4' : pack_Reader_Text.f 300 (v3, t3, true).2.1 (v3, t3, true).2.2 = _ := h4
        rw [h4', Option.bind_some]
        obtain ⟨x, hx, bx⟩ := last (wrap64 v1) (wrap64 v2) (v3 % 4294967296) v4 t4
        exact ⟨x, hx, no bx⟩
    · have h2' : pack_Reader_Number.f 300 (v1, t1, false).2.1 (v1, t1, false).2.2 1 = _ := h2
      rw [h2', Option.bind_some]
      obtain ⟨v3, t3, h3⟩ := nbad t2 4 (by decide) (by decide)
      have h3' : pack_Reader_Number.f 300 (v2, t2, true).2.1 (v2, t2, true).2.2 4 = _ := h3
      rw [h3', Option.bind_some]
      obtain ⟨v4, t4, h4⟩ := tbad t3
      have h4' : pack_Reader_Text.f 300 (v3, t3, true).2.1 (v3, t3, true).2.2 = _ := h4
      rw [h4', Option.bind_some]
      obtain ⟨x, hx, bx⟩ := last (wrap64 v1) (wrap64 v2) (v3 % 4294967296) v4 t4
      exact ⟨x, hx, no bx⟩
  · have h1' : pack_Reader_Number.f 300 s false 1 = _ := h1
    rw [h1', Option.bind_some]
    obtain ⟨v2, t2, h2⟩ := nbad t1 1 (by decide) (by decide)
    have h2' : pack_Reader_Number.f 300 (v1, t1, true).2.1 (v1, t1, true).2.2 1 = _ := h2
    rw [h2', Option.bind_some]
    obtain ⟨v3, t3, h3⟩ := nbad t2 4 (by decide) (by decide)
    have h3' : pack_Reader_Number.f 300 (v2, t2, true).2.1 (v2, t2, true).2.2 4 = _ := h3
    rw [h3', Option.bind_some]
    obtain ⟨v4, t4, h4⟩ := tbad t3
    have h4' : pack_Reader_Text.f 300 (v3, t3, true).2.1 (v3, t3, true).2.2 = _ := h4
    rw [h4', Option.bind_some]
    obtain ⟨x, hx, bx⟩ := last (wrap64 v1) (wrap64 v2) (v3 % 4294967296) v4 t4
    exact ⟨x, hx, no bx⟩

theorem read_short {o c s : Int} {key value : ByteArray} (h : WishOk o c s key value) (m : Nat) (hm : m < (cmdB o c s key value).size) :
    ∃ x, cmd_Read.f 300 ((cmdB o c s key value).extract 0 m) false = some x ∧ x.2.2.2.2.2.2 = true := by
  obtain ⟨x, hx, more⟩ := read_more ((cmdB o c s key value).extract 0 m) ((cmdB o c s key value).extract m (cmdB o c s key value).size)
  refine ⟨x, hx, ?_⟩
  cases hb : x.2.2.2.2.2.2 with
  | true => rfl
  | false =>
    have g := more hb
    have e : (cmdB o c s key value).extract 0 m ++ (cmdB o c s key value).extract m (cmdB o c s key value).size = cmdB o c s key value ++ (⟨#[]⟩ : ByteArray) := by
      have : (⟨#[]⟩ : ByteArray) = ByteArray.empty := rfl
      rw [this, ByteArray.append_empty, ByteArray.extract_append_extract, Nat.zero_min, Nat.max_eq_right (by omega), ByteArray.extract_zero_size]
    rw [e, read_ok h] at g
    have z := congrArg (fun y : Option (Int × Int × Int × ByteArray × ByteArray × ByteArray × Bool) => (y.map fun y => y.2.2.2.2.2.1.size).getD 0) g
    simp only [Option.map_some, Option.getD_some, ByteArray.size_append, ByteArray.size_extract] at z
    have : (⟨#[]⟩ : ByteArray).size = 0 := rfl
    omega

theorem cmdB_inj {o c s : Int} {key value : ByteArray} {o' c' s' : Int} {key' value' : ByteArray} (h : WishOk o c s key value) (h' : WishOk o' c' s' key' value') (e : cmdB o c s key value = cmdB o' c' s' key' value') :
    o = o' ∧ c = c' ∧ s = s' ∧ key = key' ∧ value = value' := by
  have a := read_ok h (⟨#[]⟩ : ByteArray)
  rw [e, read_ok h'] at a
  have b := Option.some.inj a
  simp only [Prod.mk.injEq] at b
  obtain ⟨rfl, rfl, rfl, rfl, rfl, _⟩ := b
  exact ⟨rfl, rfl, rfl, rfl, rfl⟩

theorem CmdBack : comitialaw07_CmdBack.Pure := by
  intro a0 a1 a2 a3 a4 a5 b0 b1 b2 b3 b4 b5 rest cut ha0 ha1 ha2 ha3 ha4 hb0 hb1 hb2 hb3 hb4 hr hcut
  obtain ⟨x0, x1, x2, x3, x4, hx, wx⟩ := wish_ok a0 a1 a2 a3 a4 (bounds_i64 ha0) (bounds_i64 ha1) (bounds_u32 ha2)
  obtain ⟨y0, y1, y2, y3, y4, hy, wy⟩ := wish_ok b0 b1 b2 b3 b4 (bounds_i64 hb0) (bounds_i64 hb1) (bounds_u32 hb2)
  have hc := bounds_u8 hcut
  have sm := wish_small wx
  have sz := cmdB_size x0 x1 x2 x3 x4
  refine ⟨300, ?_⟩
  unfold comitialaw07_CmdBack.f
  rw [ex300, Option.bind_some, if_pos rfl, hx, Option.bind_some, hy, Option.bind_some]
  have hB := bytes_eq 300 (by decide) wx
  have hB' := bytes_eq 300 (by decide) wy
  have hB1 : cmd_Bytes.f 300 (x0, x1, x2, x3, x4).1 (x0, x1, x2, x3, x4).2.1 (x0, x1, x2, x3, x4).2.2.1 (x0, x1, x2, x3, x4).2.2.2.1 (x0, x1, x2, x3, x4).2.2.2.2 = _ := hB
  have hB2 : cmd_Bytes.f 300 (y0, y1, y2, y3, y4).1 (y0, y1, y2, y3, y4).2.1 (y0, y1, y2, y3, y4).2.2.1 (y0, y1, y2, y3, y4).2.2.2.1 (y0, y1, y2, y3, y4).2.2.2.2 = _ := hB'
  rw [hB1, Option.bind_some, hB2, Option.bind_some]
  have hR := read_ok wx rest
  have ci := fun e => cmdB_inj wx wy e
  have inj : (cmdB x0 x1 x2 x3 x4).toList = (cmdB y0 y1 y2 y3 y4).toList ↔ (x0 = y0 ∧ x1 = y1 ∧ x2 = y2 ∧ x3.toList = y3.toList ∧ x4.toList = y4.toList) := by
    constructor
    · intro e
      obtain ⟨rfl, rfl, rfl, rfl, rfl⟩ := ci (toList_inj e)
      exact ⟨rfl, rfl, rfl, rfl, rfl⟩
    · rintro ⟨rfl, rfl, rfl, h3, h4⟩
      rw [toList_inj h3, toList_inj h4]
  have hm : Int.tmod (wrap64 cut) ((cmdB x0 x1 x2 x3 x4).size : Int) = cut % ((cmdB x0 x1 x2 x3 x4).size : Int) := by
    rw [show wrap64 cut = cut by unfold wrap64; omega]
    exact Int.tmod_eq_emod_of_nonneg hc.1
  have hpos : (0 : Int) < ((cmdB x0 x1 x2 x3 x4).size : Int) := by omega
  have hm0 := Int.emod_nonneg cut (by omega : ((cmdB x0 x1 x2 x3 x4).size : Int) ≠ 0)
  have hm1 := Int.emod_lt_of_pos cut hpos
  obtain ⟨z, hz, bz⟩ := read_short wx (cut % ((cmdB x0 x1 x2 x3 x4).size : Int)).toNat (by omega)
  have hn : ¬ (cmdB x0 x1 x2 x3 x4).toList = ([] : List UInt8) := by rw [toList_nil]; omega
  show (if (cmdB x0 x1 x2 x3 x4).toList = ([] : List UInt8) then (some false) else (if (cmdB x0 x1 x2 x3 x4).size + rest.size ≤ 9223372036854775807 then ((cmd_Read.f 300 (cmdB x0 x1 x2 x3 x4 ++ rest) false).bind fun bt198 => (if ((cmdB x0 x1 x2 x3 x4).size : Int) = 0 then (none) else (if 0 ≤ (Int.tmod (wrap64 cut) ((cmdB x0 x1 x2 x3 x4).size : Int)) then (if (Int.tmod (wrap64 cut) ((cmdB x0 x1 x2 x3 x4).size : Int)) ≤ ((cmdB x0 x1 x2 x3 x4).size : Int) then ((cmd_Read.f 300 ((cmdB x0 x1 x2 x3 x4).extract 0 ((Int.tmod (wrap64 cut) ((cmdB x0 x1 x2 x3 x4).size : Int)) : Int).toNat) false).bind fun bt207 => (if true = true then (if true = true then (if (bt198.1 == x0 && (bt198.2.1 == x1 && (bt198.2.2.1 == x2 && (bt198.2.2.2.1.toList == x3.toList && (bt198.2.2.2.2.1.toList == x4.toList))))) = true then (if bt198.2.2.2.2.2.1.toList = rest.toList then (if bt198.2.2.2.2.2.2 = true then (some false) else (if bt207.2.2.2.2.2.2 = true then (some (((cmdB x0 x1 x2 x3 x4).toList == (cmdB y0 y1 y2 y3 y4).toList) == (x0 == y0 && (x1 == y1 && (x2 == y2 && (x3.toList == y3.toList && (x4.toList == y4.toList))))))) else (some false))) else (some false)) else (some false)) else (some false)) else (some false))) else (none)) else (none)))) else (none))) = some true
  rw [if_neg hn, if_pos (by omega), hR, Option.bind_some, if_neg (by omega), hm, if_pos hm0, if_pos (by omega), hz, Option.bind_some, if_pos rfl, if_pos rfl, if_pos (by simp), if_pos rfl, if_neg (fun h => Bool.noConfusion h), if_pos bz]
  congr 1
  rw [beq_iff_eq, Bool.eq_iff_iff, beq_iff_eq]
  simp only [Bool.and_eq_true, beq_iff_eq]
  exact inj
end Go.Proofs.YtlljdocflfpnkaaDoor.Pure
