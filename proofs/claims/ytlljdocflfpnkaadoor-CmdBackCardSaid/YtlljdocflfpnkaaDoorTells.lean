/- What an argument of any kind that is built of whole numbers, bools, strings, structs, arrays and slices reads as, in the printed words' kinds; and how large it may be. Of no program. -/
import Derived.Test.YtlljdocflfpnkaaDoorWWords
import Derived.SizedLaws
import Derived.Deep.Slices
import Derived.DataElems
import Derived.WideShapes
import Derived.ChangeArms
import Derived.Carry
namespace Go.Proofs.YtlljdocflfpnkaaDoor.Tells
open Go Go.WideShapes Go.Proofs.YtlljdocflfpnkaaDoorW.PrintWords

/-- Whatever data of type t reads as, its cells tell an x of the kind K, and G x. -/
def Tells {α : Type} (P : Program) (t : TypeId) (K : Kd α) (G : α → Prop) : Prop :=
  ∀ {H : Type} (enc : TypeId × Value → H) (w : World) (base : Nat) (spare : Nat → Bool) (held : Bool) (fuel : Nat) (cs : List Value) (y : DataW H × List MemPlace),
    DataW.trod enc P w base spare held fuel t cs = some y → (y.1.weights P t).all (· ≤ reachBytes) = true → ∃ x, K.K w x cs ∧ G x

section
variable {P : Program} {t : TypeId}
theorem tells_int {k : IntKind} (hu : P.underlying t = some (.int k)) : Tells P t (Kd.int k) (fun x => (Lit.int k x).wf = true) := by
  intro H enc w base spare held fuel cs y h _
  obtain ⟨x, rfl, _, hw⟩ := DataW.trod_int hu h
  exact ⟨x, rfl, hw⟩
theorem tells_bool (hu : P.underlying t = some .bool) : Tells P t Kd.bool (fun _ => True) := by
  intro H enc w base spare held fuel cs y h _
  obtain ⟨x, rfl, _⟩ := DataW.trod_bool hu h
  exact ⟨x, rfl, trivial⟩
theorem tells_string (hu : P.underlying t = some .string) : Tells P t Kd.string (fun s => s.size ≤ 140737488351232) := by
  intro H enc w base spare held fuel cs y h hw
  obtain ⟨s, rfl, rfl, _⟩ := DataW.trod_string hu h
  refine ⟨s, rfl, ?_⟩
  have z := List.all_eq_true.1 hw s.data.toList.length (by simp [DataW.weights])
  rw [Array.length_toList] at z
  exact of_decide_eq_true z

theorem weightsAll_mem {H : Type} {e : TypeId} {d : DataW H} : ∀ {l : List (DataW H)}, d ∈ l → ∀ n ∈ d.weights P e, n ∈ DataW.weightsAll P e l
  | d0 :: l, hd, n, hn => by
    simp only [DataW.weightsAll, List.mem_append]
    rcases List.mem_cons.1 hd with rfl | hd
    · exact .inl hn
    · exact .inr (weightsAll_mem hd n hn)
  | [], hd, _, _ => by simp at hd

theorem list_of {α : Type} (p : Nat → α → Prop) : ∀ n, (∀ i, i < n → ∃ x, p i x) → ∃ xs : List α, xs.length = n ∧ ∀ i x, xs[i]? = some x → p i x
  | 0, _ => ⟨[], rfl, fun i x h => by simp at h⟩
  | n + 1, h => by
    obtain ⟨xs, hl, hx⟩ := list_of p n (fun i hi => h i (by omega))
    obtain ⟨z, hz⟩ := h n (by omega)
    refine ⟨xs ++ [z], by simp [hl], fun i x hi => ?_⟩
    by_cases hlt : i < xs.length
    · rw [List.getElem?_append_left hlt] at hi
      exact hx i x hi
    · rw [List.getElem?_append_right (by omega)] at hi
      have h0 : i - xs.length = 0 := by
        by_cases h0 : i - xs.length = 0
        · exact h0
        · rw [List.getElem?_eq_none (by simp; omega)] at hi
          cases hi
      rw [h0] at hi
      simp at hi
      subst hi
      have : i = n := by omega
      rw [this]
      exact hz

theorem tells_slice {α : Type} {K : Kd α} {G : α → Prop} {e : TypeId} {B : Nat} (hu : P.underlying t = some (.slice e)) (hc : P.cellsOf e = K.sz) (hB : P.bytesOf e = B) (hK : Tells P e K G) :
    Tells P t (Kd.slice e K) (fun xs => xs.length * B ≤ 140737488351232 ∧ ∀ x ∈ xs, G x) := by
  intro H enc w base spare held fuel cs y h hw
  rcases Deep.open_slice hu h with ⟨rfl, _⟩ | ⟨a, len, cap, m, n, D, Pl, rfl, hb, hl, hm, hmm, rfl, hx⟩
  · exact ⟨[], ⟨none, 0, rfl, Nat.le_refl _, rfl, by simp, fun h => absurd h (by simp)⟩, by simp, fun x hx => by simp at hx⟩
  · have hlm : len ≤ m := by rw [hmm]; split <;> omega
    have hall := List.all_eq_true.1 hw
    have hlen : len * B ≤ 140737488351232 := by
      have z := hall ((((List.range len).map D).length + ((List.range (m - len)).map fun j => D (len + j)).length) * P.bytesOf e) (by simp [DataW.weights, hu])
      have z2 := of_decide_eq_true z
      rw [hB] at z2
      refine Nat.le_trans (Nat.mul_le_mul_right _ ?_) z2
      simp
    obtain ⟨xs, hxl, hxs⟩ := list_of (fun i (x : α) => ∃ c, w.cells? base (a.add (i * P.cellsOf e)) (P.cellsOf e) = some c ∧ K.K w x c ∧ G x) len (fun i hi => by
      obtain ⟨c, h1, h2⟩ := hx i (by omega)
      obtain ⟨x, hk, hg⟩ := hK enc w base spare held n c _ h2 (List.all_eq_true.2 fun q hq => hall q (by
        simp only [DataW.weights, hu, List.mem_cons, List.mem_append]
        exact .inr (.inl (weightsAll_mem (List.mem_map.2 ⟨i, by simpa using hi, rfl⟩) q hq))))
      exact ⟨x, c, h1, hk, hg⟩)
    refine ⟨xs, ⟨some a, cap, by rw [hxl], by omega, rfl, ?_, fun _ => ⟨a, rfl, fun j p hj => ?_⟩⟩, by rw [hxl]; exact hlen, fun x hx => ?_⟩
    · unfold maxLen at hm; omega
    · obtain ⟨c, h1, hk, _⟩ := hxs j p hj
      obtain ⟨_, hcl, hcell⟩ := World.cells?_some h1
      refine ⟨c, K.K_len hk, hk, fun i u hi => ?_⟩
      have hi' : i < P.cellsOf e := by
        rw [← hcl]
        exact (List.getElem?_eq_some_iff.1 hi).1
      have := hcell i hi'
      rw [Addr.add_add, hc] at this
      rw [this]
      exact hi
    · obtain ⟨i, hi, rfl⟩ := List.getElem_of_mem hx
      obtain ⟨_, _, _, hg⟩ := hxs i _ (List.getElem?_eq_getElem hi)
      exact hg

/-- Values in line: types and the places where they begin. -/
def TellsL {α : Type} (P : Program) (L : List (TypeId × Nat)) (off : Nat) (K : Kd α) (G : α → Prop) : Prop :=
  ∀ {H : Type} (enc : TypeId × Value → H) (w : World) (base : Nat) (spare : Nat → Bool) (held : Bool) (fuel : Nat) (cs : List Value) (xs : List (DataW H × List MemPlace)),
    cs.length = off + K.sz → L.mapM (fun f => DataW.trod enc P w base spare held fuel f.1 ((cs.drop f.2).take (P.cellsOf f.1))) = some xs →
    (DataW.weightsEach P (L.map (·.1)) (xs.map (·.1))).all (· ≤ reachBytes) = true → ∃ x, K.K w x (cs.drop off) ∧ G x
theorem tells_last {α : Type} {K : Kd α} {G : α → Prop} {off : Nat} (h : Tells P t K G) (hc : P.cellsOf t = K.sz) : TellsL P [(t, off)] off K G := by
  intro H enc w base spare held fuel cs xs hl hm hw
  simp only [List.mapM_cons, List.mapM_nil, Option.bind_eq_bind, Option.bind_eq_some_iff, Option.pure_def, Option.some.injEq] at hm
  obtain ⟨y, hy, _, rfl, rfl⟩ := hm
  rw [List.take_of_length_le (by rw [List.length_drop, hl, hc]; omega)] at hy
  exact h enc w base spare held fuel _ y hy (by simpa [DataW.weightsEach] using hw)
theorem tells_cons {α β : Type} {K1 : Kd α} {K2 : Kd β} {G1 : α → Prop} {G2 : β → Prop} {off : Nat} {L : List (TypeId × Nat)} (h : Tells P t K1 G1) (hc : P.cellsOf t = K1.sz) (hr : TellsL P L (off + K1.sz) K2 G2) :
    TellsL P ((t, off) :: L) off (Kd.pair K1 K2) (fun x => G1 x.1 ∧ G2 x.2) := by
  intro H enc w base spare held fuel cs xs hl hm hw
  simp only [List.mapM_cons, Option.bind_eq_bind, Option.bind_eq_some_iff, Option.pure_def, Option.some.injEq] at hm
  obtain ⟨y, hy, ys, hys, rfl⟩ := hm
  have hl' : cs.length = off + (K1.sz + K2.sz) := hl
  simp only [List.map_cons, DataW.weightsEach, List.all_append, Bool.and_eq_true] at hw
  obtain ⟨x1, hk1, hg1⟩ := h enc w base spare held fuel _ y hy hw.1
  obtain ⟨x2, hk2, hg2⟩ := hr enc w base spare held fuel cs ys (by omega) hys hw.2
  refine ⟨(x1, x2), ⟨_, _, ?_, hk1, hk2⟩, hg1, hg2⟩
  rw [hc]
  have := List.take_append_drop K1.sz (cs.drop off)
  rw [List.drop_drop] at this
  exact this.symm

theorem mapM_map_some {α β γ : Type} (g : α → β) (f : β → Option γ) : ∀ l : List α, (l.map g).mapM f = l.mapM fun x => f (g x)
  | [] => rfl
  | x :: l => by simp only [List.map_cons, List.mapM_cons, mapM_map_some g f l]
theorem tells_struct {α : Type} {K : Kd α} {G : α → Prop} {fs : Array Field} {L : List (TypeId × Nat)} (hu : P.underlying t = some (.struct fs)) (hL : fs.toList.map (fun f => (f.type, f.offset)) = L) (hc : P.cellsOf t = K.sz) (h : TellsL P L 0 K G) : Tells P t K G := by
  subst hL
  intro H enc w base spare held fuel cs y hy hw
  cases fuel with
  | zero => simp [DataW.trod] at hy
  | succ n =>
    have hy2 : (if cs.length = P.cellsOf t then (fs.toList.mapM fun f => DataW.trod enc P w base spare held n f.type ((cs.drop f.offset).take (P.cellsOf f.type))).map fun xs => (DataW.agg (xs.map (·.1)), xs.flatMap (·.2)) else none) = some y := by
      have := hy
      unfold DataW.trod at this
      rw [hu] at this
      exact this
    split at hy2
    · rename_i hlen
      obtain ⟨xs, hxs, rfl⟩ := Option.map_eq_some_iff.1 hy2
      obtain ⟨x, hk, hg⟩ := h enc w base spare held n cs xs (by omega) (by rw [mapM_map_some]; exact hxs) (by simpa [DataW.weights, hu, Function.comp_def] using hw)
      exact ⟨x, by simpa using hk, hg⟩
    · cases hy2
theorem weightsEach_const {H : Type} {e : TypeId} : ∀ (ts : List TypeId) (ds : List (DataW H)), (∀ t ∈ ts, t = e) → ts.length = ds.length → DataW.weightsEach P ts ds = DataW.weightsAll P e ds
  | [], [], _, _ => rfl
  | t0 :: ts, d :: ds, h, hl => by
    simp only [DataW.weightsEach, DataW.weightsAll]
    rw [weightsEach_const ts ds (fun t ht => h t (by simp [ht])) (by simpa using hl), h t0 (by simp)]
  | [], _ :: _, _, hl => by simp at hl
  | _ :: _, [], _, hl => by simp at hl
theorem mapM_len {α β : Type} (f : α → Option β) : ∀ (l : List α) (r : List β), l.mapM f = some r → r.length = l.length
  | [], r, h => by simp at h; subst h; rfl
  | x :: l, r, h => by
    simp only [List.mapM_cons, Option.bind_eq_bind, Option.bind_eq_some_iff, Option.pure_def, Option.some.injEq] at h
    obtain ⟨y, _, ys, hys, rfl⟩ := h
    simp [mapM_len f l ys hys]
theorem tells_array {α : Type} {K : Kd α} {G : α → Prop} {n : Nat} {e : TypeId} {L : List (TypeId × Nat)} (hu : P.underlying t = some (.array n e)) (hL : (List.range n).map (fun i => (e, i * P.cellsOf e)) = L) (hc : P.cellsOf t = K.sz) (h : TellsL P L 0 K G) : Tells P t K G := by
  subst hL
  intro H enc w base spare held fuel cs y hy hw
  cases fuel with
  | zero => simp [DataW.trod] at hy
  | succ m =>
    have hy2 : (if cs.length = P.cellsOf t then ((List.range n).mapM fun i => DataW.trod enc P w base spare held m e ((cs.drop (i * P.cellsOf e)).take (P.cellsOf e))).map fun xs => (DataW.agg (xs.map (·.1)), xs.flatMap (·.2)) else none) = some y := by
      have := hy
      unfold DataW.trod at this
      rw [hu] at this
      exact this
    split at hy2
    · rename_i hlen
      obtain ⟨xs, hxs, rfl⟩ := Option.map_eq_some_iff.1 hy2
      have hxl := mapM_len _ _ _ hxs
      obtain ⟨x, hk, hg⟩ := h enc w base spare held m cs xs (by omega) (by rw [mapM_map_some]; exact hxs) (by
        rw [weightsEach_const (e := e) _ _ (by simp) (by simp [hxl])]
        simpa [DataW.weights, hu] using hw)
      exact ⟨x, by simpa using hk, hg⟩
    · cases hy2
theorem tells_iso {α β : Type} {K : Kd α} {G : α → Prop} (h : Tells P t K G) (f : β → α) (g : α → β) (hfg : ∀ a, f (g a) = a) : Tells P t (Kd.iso K f) (fun b => G (f b)) := by
  intro H enc w base spare held fuel cs y hy hw
  obtain ⟨x, hk, hg⟩ := h enc w base spare held fuel cs y hy hw
  exact ⟨g x, by show K.K w (f (g x)) cs; rw [hfg]; exact hk, by show G (f (g x)); rw [hfg]; exact hg⟩
theorem tells_mono {α : Type} {K : Kd α} {G G' : α → Prop} (h : Tells P t K G) (hg : ∀ x, G x → G' x) : Tells P t K G' := by
  intro H enc w base spare held fuel cs y hy hw
  obtain ⟨x, hk, hx⟩ := h enc w base spare held fuel cs y hy hw
  exact ⟨x, hk, hg x hx⟩

/-- An argument's weights. -/
theorem sized_all {H : Type} {ts : List TypeId} {ds : List (DataW H)} (hsz : (DataW.weightsEach P ts ds).all (· ≤ reachBytes) = true) {j : Nat} {d : DataW H} (ht : ts[j]? = some t) (hd : ds[j]? = some d) : (d.weights P t).all (· ≤ reachBytes) = true :=
  List.all_eq_true.2 fun n hn => List.all_eq_true.1 hsz n (DataW.weights_mem_each ht hd n hn)
/-- A struct argument. -/
theorem arg_struct {α : Type} {K : Kd α} {G : α → Prop} {H : Type} {enc : TypeId × Value → H} {W : World} {base base0 : Nat} {spare : Nat → Bool} {held : Bool} {r : Reach} {v : Value} {d : DataW H} {p : List MemPlace} {fs : Array Field}
    (hu : P.underlying t = some (.struct fs)) (hv : Value.okWide P W r base0 t v) (h : DataW.Trod enc P W base spare held t v d p) (hw : (d.weights P t).all (· ≤ reachBytes) = true) (T : Tells P t K G) :
    ∃ l x, v = .agg (List.toArray l) ∧ K.K W x l ∧ G x := by
  obtain ⟨cs, rfl, _⟩ := okWide_struct hu hv
  obtain ⟨fuel, hf⟩ := h
  obtain ⟨x, hk, hg⟩ := T enc W base spare held fuel _ _ hf hw
  refine ⟨cs.toList, x, by simp, ?_, hg⟩
  simpa [Value.cells] using hk
/-- A slice argument. -/
theorem arg_slice {α : Type} {K : Kd α} {G : List α → Prop} {H : Type} {enc : TypeId × Value → H} {W : World} {base base0 : Nat} {spare : Nat → Bool} {held : Bool} {r : Reach} {v : Value} {d : DataW H} {p : List MemPlace} {e : TypeId}
    (hu : P.underlying t = some (.slice e)) (hv : Value.okWide P W r base0 t v) (h : DataW.Trod enc P W base spare held t v d p) (hw : (d.weights P t).all (· ≤ reachBytes) = true) (T : Tells P t (Kd.slice e K) G) :
    ∃ A c xs, v = .slice A xs.length c ∧ xs.length ≤ c ∧ K.C W A xs.length xs ∧ G xs := by
  obtain ⟨a, len, cap, rfl⟩ := okWide_slice hu hv
  obtain ⟨fuel, hf⟩ := h
  obtain ⟨xs, ⟨A, c, he, hl, hr⟩, hg⟩ := T enc W base spare held fuel _ _ hf hw
  have he' : [Value.slice a len cap] = [.slice A xs.length c] := by simpa [Value.cells] using he
  injection he' with he' _
  exact ⟨A, c, xs, he', hl, hr, hg⟩
theorem places_lt {H : Type} {enc : TypeId × Value → H} {W : World} {base : Nat} {spare : Nat → Bool} {held : Bool} {v : Value} {d : DataW H} {p : List MemPlace} (h : DataW.Trod enc P W base spare held t v d p) : ∀ x ∈ p, x.block < W.heap.size := by
  obtain ⟨m, hm⟩ := h
  exact DataW.trod_lt m _ _ _ hm
end
end Go.Proofs.YtlljdocflfpnkaaDoor.Tells
