/- A store: what it is in plain words, and in memory. -/
import Derived.Test.YtehkfdicaiehcaaCmd2
import Derived.Test.YtehkfdicaiehcaaMaps
namespace Go.Proofs.Ytehkfdicaiehcaa.Nv
open Go
structure Reply where
  client : Int
  seq : Int
  found : Bool
  value : ByteArray
  deriving DecidableEq
def Reply.c (x : Reply) : List NV := [.int .i64 x.client, .int .u32 x.seq, .bool x.found, .str x.value]
def reply0 : Reply := ⟨0, 0, false, ByteArray.empty⟩
theorem Reply.ext' {a b : Reply} : a = b ↔ a.client = b.client ∧ a.seq = b.seq ∧ a.found = b.found ∧ a.value = b.value := by cases a; cases b; simp
theorem bool_beq (a b : Bool) : (a == b) = decide (a = b) := by cases a <;> cases b <;> rfl
theorem eq_reply (a b : Reply) : eqL [.int, .int, .bool, .str] a.c b.c = some (decide (a = b)) := by
  have h : decide (a = b) = (decide (a.client = b.client) && (decide (a.seq = b.seq) && (decide (a.found = b.found) && (decide (a.value = b.value) && true)))) := by
    rw [Bool.eq_iff_iff]
    simp [Reply.ext']
  rw [h]
  simp only [Reply.c, eqL, eqC, if_true, str_beq, int_beq, bool_beq]
def kfS (s : ByteArray) : NV := .str s
theorem hkS (a b : ByteArray) : eqV ⟨false, [.str]⟩ (kfS a) (kfS b) = some (decide (a = b)) := by
  show eqC .str (.str a) (.str b) = _
  simp only [eqC, str_beq]
def kfA (p : Int × Int) : NV := .agg [.int .i64 p.1, .int .u32 p.2]
theorem hkA (p q : Int × Int) : eqV ⟨true, [.int, .int]⟩ (kfA p) (kfA q) = some (decide (p = q)) := by
  have h : decide (p = q) = (decide (p.1 = q.1) && (decide (p.2 = q.2) && true)) := by
    rw [Bool.eq_iff_iff]
    simp [Prod.ext_iff]
  rw [h]
  show eqL _ [.int .i64 p.1, .int .u32 p.2] [.int .i64 q.1, .int .u32 q.2] = _
  simp only [eqL, eqC, if_true, int_beq]
def vfS (s : ByteArray) : NV := .str s
def vfG (x : List (List NV) × Nat) : NV := .own 5 x.1 0 x.2
def vfR (r : Reply) : NV := .agg r.c
abbrev Vals := List (ByteArray × ByteArray)
abbrev Logs := List (ByteArray × (List (List NV) × Nat))
abbrev Dones := List ((Int × Int) × Reply)
def storeB (V : Vals) (G : Logs) (D : Dones) : List NObj := [.mp (menc kfS vfS V), .mp (menc kfS vfG G), .mp (menc kfA vfR D), .cells [.map 0 0, .map 0 1, .map 0 2]]
structure LogsOk (G : Logs) (o : Option Nat) (ts : List Bool) (n : Nat) : Prop where
  live : ∀ (i : Nat) x, G[i]? = some x → ts[x.2.2]? = some true
  inj : ∀ (i j : Nat) x y, G[i]? = some x → G[j]? = some y → x.2.2 = y.2.2 → i = j
  len : ∀ (i : Nat) x, G[i]? = some x → x.2.1.length ≤ n
  olive : ∀ t, o = some t → ts[t]? = some true
  odis : ∀ t (i : Nat) x, o = some t → G[i]? = some x → x.2.2 ≠ t
theorem lt_of_get {α : Type} {l : List α} {i : Nat} {x : α} (h : l[i]? = some x) : i < l.length := (List.getElem?_eq_some_iff.1 h).1
theorem logs_some {G : Logs} {o : Option Nat} {ts : List Bool} {n : Nat} {k : ByteArray} {rows : List (List NV)} {t : Nat} (h : LogsOk G o ts n) (hk : alook k G = some (rows, t)) :
    ts[t]? = some true ∧ rows.length ≤ n ∧ ∀ r : List NV, LogsOk (aput k (rows ++ [r], (ts.set t false).length) G) o (ts.set t false ++ [true]) (n + 1) := by
  unfold alook at hk
  obtain ⟨⟨j, q⟩, hj, hq⟩ := Option.map_eq_some_iff.1 hk
  simp only at hq
  subst hq
  have hg := aget_some hj
  have h1 := h.live j _ hg
  have h2 := h.len j _ hg
  simp only at h1 h2
  refine ⟨h1, h2, fun r => ?_⟩
  have e : aput k (rows ++ [r], (ts.set t false).length) G = G.set j (k, (rows ++ [r], (ts.set t false).length)) := by unfold aput; rw [hj]
  rw [e]
  have hlt := lt_of_get hg
  have old : ∀ (i : Nat) x, i ≠ j → G[i]? = some x → x.2.2 ≠ t ∧ x.2.2 < ts.length := fun i x hij hx => ⟨fun e => hij (h.inj i j x _ hx hg e), lt_of_get (h.live i x hx)⟩
  have get : ∀ (i : Nat) x, (G.set j (k, (rows ++ [r], (ts.set t false).length)))[i]? = some x → (i = j ∧ x = (k, (rows ++ [r], (ts.set t false).length))) ∨ (i ≠ j ∧ G[i]? = some x) := by
    intro i x hx
    by_cases hij : i = j
    · subst hij
      rw [List.getElem?_set_self hlt] at hx
      exact .inl ⟨rfl, (Option.some.inj hx).symm⟩
    · rw [List.getElem?_set_ne (fun q => hij q.symm)] at hx
      exact .inr ⟨hij, hx⟩
  refine ⟨fun i x hx => ?_, fun i i' x y hx hy hxy => ?_, fun i x hx => ?_, fun u hu => ?_, fun u i x hu hx => ?_⟩
  · rcases get i x hx with ⟨rfl, rfl⟩ | ⟨hij, hx⟩
    · simp
    · obtain ⟨o1, o2⟩ := old i x hij hx
      rw [List.getElem?_append_left (by simpa using o2), List.getElem?_set_ne (fun q => o1 q.symm)]
      exact h.live i x hx
  · rcases get i x hx with ⟨e1, rfl⟩ | ⟨hij, hx1⟩ <;> rcases get i' y hy with ⟨e2, rfl⟩ | ⟨hij', hy1⟩
    · rw [e1, e2]
    · have := (old i' y hij' hy1).2
      simp at hxy
      omega
    · have := (old i x hij hx1).2
      simp at hxy
      omega
    · exact h.inj i i' x y hx1 hy1 hxy
  · rcases get i x hx with ⟨rfl, rfl⟩ | ⟨hij, hx⟩
    · simp; omega
    · have := h.len i x hx; omega
  · have h5 := h.olive u hu
    have h6 := h.odis u j _ hu hg
    simp only at h6
    rw [List.getElem?_append_left (by rw [List.length_set]; exact lt_of_get h5), List.getElem?_set_ne h6]
    exact h5
  · rcases get i x hx with ⟨e1, rfl⟩ | ⟨hij, hx1⟩
    · have := lt_of_get (h.olive u hu)
      simp
      omega
    · exact h.odis u i x hu hx1
theorem logs_none {G : Logs} {o : Option Nat} {ts : List Bool} {n : Nat} {k : ByteArray} (h : LogsOk G o ts n) (hk : alook k G = none) (r : List NV) : LogsOk (aput k ([r], ts.length) G) o (ts ++ [true]) (n + 1) := by
  have hn : aget k G 0 = none := by unfold alook at hk; exact Option.map_eq_none_iff.1 hk
  have e : aput k ([r], ts.length) G = G ++ [(k, ([r], ts.length))] := by unfold aput; rw [hn]
  rw [e]
  have old : ∀ (i : Nat) x, G[i]? = some x → x.2.2 < ts.length := fun i x hx => lt_of_get (h.live i x hx)
  have get : ∀ (i : Nat) x, (G ++ [(k, ([r], ts.length))])[i]? = some x → (i = G.length ∧ x = (k, ([r], ts.length))) ∨ G[i]? = some x := by
    intro i x hx
    rcases Nat.lt_trichotomy i G.length with q | q | q
    · rw [List.getElem?_append_left q] at hx; exact .inr hx
    · subst q; rw [List.getElem?_append_right (Nat.le_refl _)] at hx; simp at hx; exact .inl ⟨rfl, hx.symm⟩
    · rw [List.getElem?_eq_none (by simp; omega)] at hx; cases hx
  refine ⟨fun i x hx => ?_, fun i i' x y hx hy hxy => ?_, fun i x hx => ?_, fun u hu => ?_, fun u i x hu hx => ?_⟩
  · rcases get i x hx with ⟨rfl, rfl⟩ | hx
    · simp
    · rw [List.getElem?_append_left (old i x hx)]; exact h.live i x hx
  · rcases get i x hx with ⟨e1, rfl⟩ | hx1 <;> rcases get i' y hy with ⟨e2, rfl⟩ | hy1
    · rw [e1, e2]
    · have := old i' y hy1
      simp at hxy
      omega
    · have := old i x hx1
      simp at hxy
      omega
    · exact h.inj i i' x y hx1 hy1 hxy
  · rcases get i x hx with ⟨rfl, rfl⟩ | hx
    · simp
    · have := h.len i x hx; omega
  · have h5 := h.olive u hu
    rw [List.getElem?_append_left (lt_of_get h5)]
    exact h5
  · rcases get i x hx with ⟨e1, rfl⟩ | hx1
    · have := lt_of_get (h.olive u hu)
      simp
      omega
    · exact h.odis u i x hu hx1
set_option maxRecDepth 8000 in
theorem c_Known (fr : Fr) (V : Vals) (G : Logs) (D : Dones) (junk : List NObj) (ts : List Bool) (m : Mem) (c s : Int) :
    E0 35 [.ptr 1 3 0, .int .i64 c, .int .u32 s] (fr :: ⟨storeB V G D ++ junk, ts⟩ :: m) (match alook (c, s) D with | some r => .tup [.agg r.c, .int .i64 0] | none => .tup [.agg reply0.c, .int .i64 5]) (fr :: ⟨storeB V G D ++ junk, ts⟩ :: m) := by
  refine EvF.by (nf := nf35) (args := [.ptr 1 3 0, .int .i64 c, .int .u32 s]) rfl (of_decide_eq_true rfl) rfl ?_
  cases hl : alook (c, s) D with
  | none =>
    repeat' (first | refine W.seq ?_ | refine W.region ?_ | refine WO.nil ?_ | refine WO.look (kf := kfA) (vf := vfR) (k := (c, s)) (L := D) hkA rfl rfl rfl rfl hl rfl ?_ | (refine WO.isMv ?_; first | refine WO.go rfl rfl ?_ | refine WO.mvR rfl ?_) | (refine WO.isUn ?_; first | refine WO.go rfl rfl ?_) | (refine WO.isLoad ?_; first | refine WO.go rfl rfl ?_) | (refine WO.isStore ?_; first | refine WO.st rfl rfl ?_) | refine WO.go rfl rfl ?_ | refine WO.st rfl rfl ?_ | refine W.skip ?_ | refine W.condT rfl ?_ | refine W.condF rfl ?_ | (refine W.fork rfl ?_ ?_ <;> intro hc <;> (fail_if_success (exfalso; cases hc; done)) <;> (first | subst hc | (simp at hc; try omega) | skip)) | refine W.ret ?_)
    exact ⟨.inr rfl, _, rfl, fin rfl rfl rfl⟩
  | some r =>
    repeat' (first | refine W.seq ?_ | refine W.region ?_ | refine WO.nil ?_ | refine WO.look (kf := kfA) (vf := vfR) (k := (c, s)) (L := D) hkA rfl rfl rfl rfl hl rfl ?_ | (refine WO.isMv ?_; first | refine WO.go rfl rfl ?_ | refine WO.mvR rfl ?_) | (refine WO.isUn ?_; first | refine WO.go rfl rfl ?_) | (refine WO.isLoad ?_; first | refine WO.go rfl rfl ?_) | (refine WO.isStore ?_; first | refine WO.st rfl rfl ?_) | refine WO.go rfl rfl ?_ | refine WO.st rfl rfl ?_ | refine W.skip ?_ | refine W.condT rfl ?_ | refine W.condF rfl ?_ | (refine W.fork rfl ?_ ?_ <;> intro hc <;> (fail_if_success (exfalso; cases hc; done)) <;> (first | subst hc | (simp at hc; try omega) | skip)) | refine W.ret ?_)
    exact ⟨.inr rfl, _, rfl, fin rfl rfl rfl⟩
set_option maxRecDepth 8000 in
theorem c_Value (fr : Fr) (V : Vals) (G : Logs) (D : Dones) (junk : List NObj) (ts : List Bool) (m : Mem) (k : ByteArray) :
    E0 36 [.ptr 1 3 0, .str k] (fr :: ⟨storeB V G D ++ junk, ts⟩ :: m) (.tup [.str ((alook k V).getD ByteArray.empty), .bool (alook k V).isSome]) (fr :: ⟨storeB V G D ++ junk, ts⟩ :: m) := by
  refine EvF.by (nf := nf36) (args := [.ptr 1 3 0, .str k]) rfl (of_decide_eq_true rfl) rfl ?_
  cases hl : alook k V with
  | none =>
    repeat' (first | refine W.seq ?_ | refine W.region ?_ | refine WO.nil ?_ | refine WO.look (kf := kfS) (vf := vfS) (k := k) (L := V) hkS rfl rfl rfl rfl hl rfl ?_ | (refine WO.isMv ?_; first | refine WO.go rfl rfl ?_ | refine WO.mvR rfl ?_) | (refine WO.isLoad ?_; first | refine WO.go rfl rfl ?_) | refine WO.go rfl rfl ?_ | refine W.ret ?_)
    exact ⟨.inr rfl, _, rfl, fin rfl rfl rfl⟩
  | some r =>
    repeat' (first | refine W.seq ?_ | refine W.region ?_ | refine WO.nil ?_ | refine WO.look (kf := kfS) (vf := vfS) (k := k) (L := V) hkS rfl rfl rfl rfl hl rfl ?_ | (refine WO.isMv ?_; first | refine WO.go rfl rfl ?_ | refine WO.mvR rfl ?_) | (refine WO.isLoad ?_; first | refine WO.go rfl rfl ?_) | refine WO.go rfl rfl ?_ | refine W.ret ?_)
    exact ⟨.inr rfl, _, rfl, fin rfl rfl rfl⟩
end Go.Proofs.Ytehkfdicaiehcaa.Nv
