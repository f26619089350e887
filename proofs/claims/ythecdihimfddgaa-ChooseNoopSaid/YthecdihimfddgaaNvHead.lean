/- Regions that draw their order: the model does what Nv reckons. Of no program. -/
import Derived.Test.YthecdihimfddgaaNvLocal
namespace Go.Proofs.Ythecdihimfddgaa.Nv
open Go Go.RowKit

/-! ### Cuts -/
section
variable {listed : Array Bool} {k j p : Nat} {bs : List Nat} {w : Nat → Prop}
abbrev isL (listed : Array Bool) (i : Nat) : Prop := listed.getD i false = true
def Cut (listed : Array Bool) (k : Nat) (w : Nat → Prop) (p : Nat) : Prop := ∀ i, i < k → w i → (isL listed i ↔ i < p)
def Closed (listed : Array Bool) (bs : List Nat) : Prop := ∀ i p, isL listed i → (bs.getD i 0).testBit p = true → isL listed p
theorem isL_set {i : Nat} (hj : j < listed.size) : isL (listed.setIfInBounds j true) i ↔ i = j ∨ isL listed i := by
  unfold isL
  by_cases h : i = j
  · subst h
    simp [Array.getD_eq_getD_getElem?, hj]
  · rw [getD_set_ne false (fun q => h q.symm)]
    simp [h]
theorem Cut.new (hj : j < listed.size) (hn : ¬ isL listed j) (hcl : Closed listed bs) (hb : ∀ q, (bs.getD j 0).testBit q = true → isL listed q)
    (h1 : ∀ q, w q → q < j → (bs.getD j 0).testBit q = true) (h2 : ∀ q, q < k → w q → j < q → (bs.getD q 0).testBit j = true) : Cut (listed.setIfInBounds j true) k w (j + 1) := by
  intro i hi hw
  rw [isL_set hj]
  rcases Nat.lt_trichotomy i j with h | h | h
  · exact ⟨fun _ => by omega, fun _ => .inr (hb i (h1 i hw h))⟩
  · exact ⟨fun _ => by omega, fun _ => .inl h⟩
  · refine ⟨fun hq => ?_, fun _ => by omega⟩
    rcases hq with hq | hq
    · omega
    · exact absurd (hcl i j hq (h2 i hi hw h)) hn
theorem Cut.old (hj : j < listed.size) (hw : ¬ w j) (h : Cut listed k w p) : Cut (listed.setIfInBounds j true) k w p := by
  intro i hi hwi
  rw [isL_set hj, ← h i hi hwi]
  exact ⟨fun hq => hq.resolve_left (by rintro rfl; exact hw hwi), .inr⟩
theorem Cut.before (h : Cut listed k w p) (hjk : j ≤ k) (hb : ∀ q, (bs.getD j 0).testBit q = true → isL listed q) (h1 : ∀ q, w q → q < j → (bs.getD j 0).testBit q = true) : ∀ q, p ≤ q → q < j → ¬ w q := by
  intro q hp hq hw
  have := (h q (by omega) hw).1 (hb q (h1 q hw hq))
  omega
theorem Cut.after (h : Cut listed k w p) (hpk : p ≤ k) (hn : ¬ isL listed j) (hcl : Closed listed bs) (h2 : ∀ q, q < k → w q → j < q → (bs.getD q 0).testBit j = true) : ∀ q, j ≤ q → q < p → ¬ w q := by
  intro q hj hq hw
  have hl := (h q (by omega) hw).2 hq
  rcases Nat.lt_or_ge j q with hlt | hge
  · exact hn (hcl q j hl (h2 q (by omega) hw hlt))
  · obtain rfl : q = j := by omega
    exact hn hl
def cnt (listed : Array Bool) (N : Nat) : Nat := (List.range N).countP fun i => !listed.getD i false
theorem countP_lt {α : Type} {p q : α → Bool} : ∀ {l : List α}, (∀ x, q x = true → p x = true) → (∃ x ∈ l, p x = true ∧ q x = false) → l.countP q < l.countP p
  | [], _, ⟨x, hx, _⟩ => by cases hx
  | y :: l, h, ⟨x, hx, h1, h2⟩ => by
    have mono : l.countP q ≤ l.countP p := List.countP_mono_left fun x _ => h x
    rw [List.countP_cons, List.countP_cons]
    rcases List.mem_cons.1 hx with rfl | hx
    · rw [h1, h2]; simp; omega
    · have := countP_lt h ⟨x, hx, h1, h2⟩
      have hy := h y
      cases hq : q y
      · simp; omega
      · rw [hy hq]; simp; omega
theorem cnt_set {N : Nat} (hj : j < N) (hs : listed.size = N) (hn : ¬ isL listed j) : cnt (listed.setIfInBounds j true) N < cnt listed N := by
  refine countP_lt (fun i hi => ?_) ⟨j, List.mem_range.2 hj, ?_, ?_⟩
  · by_cases h : isL listed i
    · have := (isL_set (j := j) (by omega)).2 (.inr h)
      simp only [isL] at this
      rw [this] at hi
      cases hi
    · simp only [isL] at h
      simpa using h
  · simp only [isL] at hn
    simpa using hn
  · have := (isL_set (listed := listed) (i := j) (j := j) (by omega)).2 (.inl rfl)
    simp only [isL] at this
    rw [this]; rfl
theorem cnt_zero {N : Nat} (h : cnt listed N = 0) : ∀ i, i < N → isL listed i := by
  intro i hi
  have := List.countP_eq_zero.1 h i (List.mem_range.2 hi)
  show listed.getD i false = true
  cases hq : listed.getD i false with
  | true => rfl
  | false => rw [hq] at this; exact absurd rfl this
end

/-! ### One run, looked at between -/
section
variable {P : Program} {n : Nat} {K : Rel4} {bs : List Nat} {fs : Nat} {is : List Ins} {es : Nat → Env} {ms : Nat → Mem} {wss : Nat → List (Nat × Nat)} {k : Nat}
theorem take_get {i : Nat} {x : Ins} (h : i < k) (hi : is[i]? = some x) : (is.take k)[i]? = some x := by rw [List.getElem?_take, if_pos h]; exact hi
theorem asks_call {op : NOp} {e : Env} {f : FuncId} {args : List NV} (h : asks op e = some (f, args)) : isCall op = true := by
  cases op <;> first | rfl | cases h
theorem imB_not {j : Nat} (h : imB fs j = true) : frB fs j = false := by
  unfold imB at h
  unfold frB
  rw [Bool.and_eq_true] at h
  simpa using h.2
theorem headK_same {fr im : Bool} {f : FuncId} {a : List NV} {m m' : Mem} {v : NV} (h : headK K fr im f a m v m') (hi : im = false) : m' = m := by
  unfold headK at h
  cases fr
  · exact h.2 hi
  · exact h.2
theorem headK_K {fr im : Bool} {f : FuncId} {a : List NV} {m m' : Mem} {v : NV} (h : headK K fr im f a m v m') (hi : fr = false) : K f a m v m' := by
  subst hi; exact h.1
/-- May the j-th turn the plain memory? -/
def chgA (fs j : Nat) (op : NOp) : Bool := chg op || (isCall op && imB fs j)
theorem ms_const (hd : Head K bs fs (is.take k) es ms wss 0) (hk : k ≤ is.length) (s : Nat) : ∀ d, s + d ≤ k → (∀ q ij, s ≤ q → q < s + d → is[q]? = some ij → chgA fs q ij.op = false) → ms (s + d) = ms s
  | 0, _, _ => rfl
  | d + 1, h, hc => by
    have ih := ms_const hd hk s d (by omega) (fun q ij h1 h2 => hc q ij h1 (by omega))
    obtain ⟨x, hx⟩ : ∃ x, is[s + d]? = some x := ⟨_, List.getElem?_eq_getElem (by omega)⟩
    have hx' := take_get (k := k) (by omega) hx
    have hcx := hc _ x (by omega) (by omega) hx
    rw [← ih]
    show ms (s + d + 1) = ms (s + d)
    cases hw : wantedN (es (s + d)) x.guard with
    | false => exact (hd.off _ _ hx' hw).2
    | true =>
      unfold chgA at hcx
      rw [Bool.or_eq_false_iff] at hcx
      obtain ⟨v, h1 | ⟨f, as, hak, h1⟩, _⟩ := hd.on _ _ hx' hw
      · exact (step_calm hcx.1 h1).1
      · exact headK_same h1 (by
          rw [Nat.zero_add]
          have := hcx.2
          rw [asks_call hak, Bool.true_and] at this
          exact this)
theorem es_const (hd : Head K bs fs (is.take k) es ms wss 0) (hk : k ≤ is.length) (t s : Nat) : ∀ d, s + d ≤ k → (∀ q ij, s ≤ q → q < s + d → is[q]? = some ij → ij.dst ≠ some t) → es (s + d) t = es s t
  | 0, _, _ => rfl
  | d + 1, h, hc => by
    have ih := es_const hd hk t s d (by omega) (fun q ij h1 h2 => hc q ij h1 (by omega))
    obtain ⟨x, hx⟩ : ∃ x, is[s + d]? = some x := ⟨_, List.getElem?_eq_getElem (by omega)⟩
    have hx' := take_get (k := k) (by omega) hx
    have hcx := hc _ x (by omega) (by omega) hx
    rw [← ih]
    show es (s + d + 1) t = es (s + d) t
    have up : ∀ v, updO (es (s + d)) x.dst v t = es (s + d) t := by
      intro v
      cases hd : x.dst with
      | none => rfl
      | some y =>
        show upd (es (s + d)) y v t = _
        rw [upd_def]
        rw [if_neg]
        rintro rfl
        exact hcx hd
    cases hw : wantedN (es (s + d)) x.guard with
    | false => rw [(hd.off _ _ hx' hw).1]; exact up _
    | true =>
      obtain ⟨v, _, h2⟩ := hd.on _ _ hx' hw
      rw [h2]; exact up _
theorem blk_const (hd : Head K bs fs (is.take k) es ms wss 0) (hk : k ≤ is.length) (hq : ∀ j i, j < k → is[j]? = some i → quietOp i.op = true) (l i s : Nat) (o : NObj) (ho : blk? (ms s) l i = some o) :
    ∀ d, s + d ≤ k → (∀ q ij, s ≤ q → q < s + d → is[q]? = some ij → wantedN (es q) ij.guard = true → wrOf ij.op (es q) ≠ some (l, i) ∧ (chgA fs q ij.op = true → (l, i) ∉ wss q)) → blk? (ms (s + d)) l i = some o
  | 0, _, _ => ho
  | d + 1, h, hc => by
    have ih := blk_const hd hk hq l i s o ho d (by omega) (fun q ij h1 h2 => hc q ij h1 (by omega))
    obtain ⟨x, hx⟩ : ∃ x, is[s + d]? = some x := ⟨_, List.getElem?_eq_getElem (by omega)⟩
    have hx' := take_get (k := k) (by omega) hx
    show blk? (ms (s + d + 1)) l i = some o
    cases hw : wantedN (es (s + d)) x.guard with
    | false => rw [(hd.off _ _ hx' hw).2]; exact ih
    | true =>
      obtain ⟨v, h1 | ⟨f, as, hak, h1⟩, _⟩ := hd.on _ _ hx' hw
      · exact step_keeps (hq _ _ (by omega) hx) h1 ih (hc _ x (by omega) (by omega) hx hw).1
      · cases hch : chgA fs (s + d) x.op with
        | true => exact (hd.keep _ _ hx' hw (asks_call hak)).2 _ _ _ ((hc _ x (by omega) (by omega) hx hw).2 hch) ih
        | false =>
          have : ms (s + d + 1) = ms (s + d) := headK_same h1 (by
            rw [Nat.zero_add]
            unfold chgA at hch
            rw [asks_call hak, Bool.true_and, Bool.or_eq_false_iff] at hch
            exact hch.2)
          rw [this]; exact ih
theorem touch_l {fi fj mi mj : Bool} {i j : Ins} {d : Nat} (h : i.dst = some d) (hj : d ∈ j.names) : bound fi fj mi mj i j = true := by
  unfold bound touch
  rw [h]
  simp [List.contains_iff_mem.2 hj, hj]
theorem touch_r {fi fj mi mj : Bool} {i j : Ins} {d : Nat} (h : j.dst = some d) (hi : d ∈ i.names) : bound fi fj mi mj i j = true := by
  unfold bound touch
  rw [h]
  simp [hi]
theorem bound_chg {p q : Nat} {i j : Ins} (h : chgA fs p i.op = true) (hj : chgA fs q j.op = true ∨ (isCall j.op = true ∧ frB fs q = false)) : bound (frB fs p) (frB fs q) (imB fs p) (imB fs q) i j = true ∧ bound (frB fs q) (frB fs p) (imB fs q) (imB fs p) j i = true := by
  have hp : imB fs p = true → frB fs p = false := imB_not
  have hq : imB fs q = true → frB fs q = false := imB_not
  unfold chgA at h hj
  rw [Bool.or_eq_true, Bool.and_eq_true] at h hj
  unfold bound
  rcases h with h | ⟨h1, h2⟩
  · rcases hj with (hj | ⟨hj, hj2⟩) | ⟨hj, hj2⟩
    · simp [h, hj]
    · simp [h, hj, hq hj2]
    · simp [h, hj, hj2]
  · rcases hj with (hj | ⟨hj, hj2⟩) | ⟨hj, hj2⟩
    · simp [h1, hj, hp h2]
    · simp [h1, hj, h2]
    · simp [h1, hj, h2]
/-- What runs in no memory runs in any. -/
def KAny (K : Rel4) : Prop := ∀ f a v, K f a [] v [] → ∀ m, K f a m v m
theorem KSim.pure {P : Program} {K : Rel4} (h : KSim P K) : KSim P (pureK K) := fun f a m v m' hk => h f a m v m' hk.1

/-- The state between, some of the head having been run. -/
structure Inv (K : Rel4) (n : Nat) (bs : List Nat) (fs : Nat) (is : List Ins) (k : Nat) (es : Nat → Env) (ms : Nat → Mem) (G0 : Gh) (m0 : Mem) (w0 : World) (ds : List Deferred) (listed : Array Bool) (a : Act) (w : World) : Prop where
  size : listed.size = is.length
  out : ∀ i, k ≤ i → ¬ isL listed i
  closed : Closed listed bs
  st : ∃ G E c, EnvR G E a n ∧ Adv G0 m0 w0 G (ms c) w ∧ c ≤ k ∧ Cut listed k (fun i => ∃ ij, is[i]? = some ij ∧ chgA fs i ij.op = true) c ∧
    ∀ t, ∃ p, p ≤ k ∧ E t = es p t ∧ Cut listed k (fun i => ∃ ij, is[i]? = some ij ∧ ij.dst = some t) p
  ds : a.defers = ds
theorem ready_bits {ops : Array Oper} {listed : Array Bool} {j : Nat} (hcl : Closed listed (befs ops.toList)) (hj : j ∈ Region.ready .any ops listed) : ∀ q, ((befs ops.toList).getD j 0).testBit q = true → isL listed q := by
  obtain ⟨h0, o, ho, hall⟩ := mem_ready.1 hj
  intro q hq
  obtain ⟨e, he, h1, h2⟩ := befs_spec (l := ops.toList) (o := o) (by simpa using ho) hq
  have hl := hall e (by simpa using he) h1
  rcases h2 with rfl | h2
  · exact hl
  · exact hcl _ _ hl h2
theorem ready_not {ops : Array Oper} {listed : Array Bool} {j : Nat} (hs : listed.size = ops.size) (hj : j ∈ Region.ready .any ops listed) : ¬ isL listed j ∧ j < ops.size := by
  obtain ⟨h0, o, ho, _⟩ := mem_ready.1 hj
  have hlt : j < ops.size := (Array.getElem?_eq_some_iff.1 ho).1
  refine ⟨fun h => ?_, hlt⟩
  have e1 : listed.getD j true = listed.getD j false := by simp [Array.getD_eq_getD_getElem?, show j < listed.size by omega]
  rw [e1] at h0
  rw [h] at h0
  cases h0
theorem wpOp_on {ops : Array Oper} {Q : Exit → Act → World → Prop} {j : Nat} {o : Oper} {a : Act} {w : World} {Kt : Act → World → Prop} (ho : ops[j]? = some o) (hw : Region.wanted o (yielded ops a.tmps) = true) (h : o.wp P a w Kt Q) : wpOp P ops Q j Kt a w := by
  unfold wpOp
  simp only [ho]
  rw [if_pos hw]
  exact .inl h
theorem wpOp_off {ops : Array Oper} {Q : Exit → Act → World → Prop} {j : Nat} {o : Oper} {a : Act} {w : World} {Kt : Act → World → Prop} (ho : ops[j]? = some o) (hw : Region.wanted o (yielded ops a.tmps) = false) (h : Kt (a.put o.dst Go.undef) w) : wpOp P ops Q j Kt a w := by
  unfold wpOp
  simp only [ho]
  rw [if_neg (by rw [hw]; simp)]
  exact h
/-- One operation, in a state that is at hand whole. -/
theorem one_op {Q : Exit → Act → World → Prop} {o : Oper} {op : NOp} {e : Env} {m m1 : Mem} {v : NV} {a : Act} {w : World} {G : Gh} {Kt : Act → World → Prop} (hK : KSim P K) (hKc : Callable P K)
    (hc : comp1 P o.op o.type = some op) (H : Run1 K op e m v m1) (hE : Env.On G e a (opTs op)) (hM : Rel G m w) (hF : G.Full m)
    (next : ∀ V G1 w1, R G1 v V → Adv G m w G1 m1 w1 → Kt (a.put o.dst V) w1) : o.wp P a w Kt Q := by
  rcases H with H1 | ⟨f, args, H1, H3⟩
  · obtain ⟨V, w', G', hr, hR, hadv⟩ := step_ok hc H1 hE hM (fun l i rb _ hb => hF.2 _ _ _ hb) (fun l i rb _ hb => hF.2 _ _ _ hb) (fun _ => .inr hF) (fun _ l t h => hF.1 l t h) (.inr hF)
    · unfold Oper.wp
      rcases hr with hr | ⟨hr, rfl⟩
      · rw [hr]; exact next _ _ _ hR hadv
      · rw [hr]; exact next _ _ _ hR hadv
  · obtain ⟨A, hr, hRA⟩ := call_ok (w := w) hc H1 hE (hKc _ _ _ _ _ H3)
    unfold Oper.wp
    rw [hr]
    refine (hK _ _ _ _ _ H3 G w A hM hF hRA).mono fun ed w' hq => ?_
    obtain ⟨V, G', rfl, hR, hadv⟩ := hq
    exact next _ _ _ hR hadv
theorem reads_of {i : Ins} {t : Nat} (h : t ∈ opTs i.op) : t ∈ i.names := by
  unfold Ins.names Ins.reads
  simp [h]
theorem guard_of {i : Ins} {t : Nat} {b : Bool} (h : i.guard = some (t, b)) : t ∈ i.names := by
  unfold Ins.names Ins.reads
  simp [h]
theorem dst_of {i : Ins} {t : Nat} (h : i.dst = some t) : t ∈ i.names := by
  unfold Ins.names
  simp [h]
theorem head_step (hK : KSim P K) (hKc : Callable P K) (hKa : KAny K) {ops : Array Oper} {G0 : Gh} {m0 : Mem} {w0 : World} {ds : List Deferred} {Q : Exit → Act → World → Prop} {listed : Array Bool} {a : Act} {w : World} {j : Nat} {Kt : Act → World → Prop}
    (hF0 : G0.Full m0) (hok : headOk (befs ops.toList) fs (ops.toList.map (compI P n ops)) k = true) (hk : k ≤ ops.size)
    (hd : Head K (befs ops.toList) fs ((ops.toList.map (compI P n ops)).take k) es ms wss 0) (hI : Inv K n (befs ops.toList) fs (ops.toList.map (compI P n ops)) k es ms G0 m0 w0 ds listed a w) (hj : j ∈ Region.ready .any ops listed) (hjk : j < k)
    (next : ∀ a' w', Inv K n (befs ops.toList) fs (ops.toList.map (compI P n ops)) k es ms G0 m0 w0 ds (listed.setIfInBounds j true) a' w' → Kt a' w') : wpOp P ops Q j Kt a w := by
  obtain ⟨hsz, hout, hcl, ⟨G, E, c, hE, hA, hck, hcut, hsl⟩, hds⟩ := hI
  simp only [List.length_map, Array.length_toList] at hsz
  obtain ⟨hn, hlt⟩ := ready_not (by omega) hj
  have hb := ready_bits hcl hj
  obtain ⟨hquiet, hbd⟩ := headOk_spec hok
  have hk' : k ≤ (ops.toList.map (compI P n ops)).length := by simpa using hk
  obtain ⟨o, ho⟩ : ∃ o, ops[j]? = some o := ⟨_, Array.getElem?_eq_getElem hlt⟩
  have hi : (ops.toList.map (compI P n ops))[j]? = some (compI P n ops o) := by simp [ho]
  have hi' := take_get hjk hi
  generalize hii : compI P n ops o = ij at hi hi'
  have hjs : j < listed.size := by omega
  -- the slots that it names
  have slot : ∀ t, t ∈ ij.names → E t = es j t := by
    intro t ht
    obtain ⟨p, hp, hEt, hc⟩ := hsl t
    rw [hEt]
    rcases Nat.lt_or_ge j p with h | h
    · have no := hc.after (bs := befs ops.toList) hp hn hcl (fun q hq hw hlt => by obtain ⟨x, hx, hdx⟩ := hw; exact hbd j q _ _ hlt hq hi hx (touch_r hdx ht))
      have := es_const hd hk' t j (p - j) (by omega) (fun q x h1 h2 hx hdx => no q h1 (by omega) ⟨x, hx, hdx⟩)
      rwa [show j + (p - j) = p by omega] at this
    · have no := hc.before (bs := befs ops.toList) (j := j) (by omega) hb (fun q hw hlt => by obtain ⟨x, hx, hdx⟩ := hw; exact hbd q j _ _ hlt hjk hx hi (touch_l hdx ht))
      have := es_const hd hk' t p (j - p) (by omega) (fun q x h1 h2 hx hdx => no q h1 (by omega) ⟨x, hx, hdx⟩)
      rw [show p + (j - p) = j by omega] at this
      exact this.symm
  have mem : (chgA fs j ij.op = true ∨ (isCall ij.op = true ∧ frB fs j = false)) → ms c = ms j := by
    intro hcc
    rcases Nat.lt_or_ge j c with h | h
    · have no := hcut.after (bs := befs ops.toList) hck hn hcl (fun q hq hw hlt => by obtain ⟨x, hx, hdx⟩ := hw; exact hbd j q _ _ hlt hq hi hx (bound_chg hdx hcc).2)
      have := ms_const hd hk' j (c - j) (by omega) (fun q x h1 h2 hx => by
        cases hq : chgA fs q x.op with
        | false => rfl
        | true => exact (no q h1 (by omega) ⟨x, hx, hq⟩).elim)
      rwa [show j + (c - j) = c by omega] at this
    · have no := hcut.before (bs := befs ops.toList) (j := j) (by omega) hb (fun q hw hlt => by obtain ⟨x, hx, hdx⟩ := hw; exact hbd q j _ _ hlt hjk hx hi (bound_chg hdx hcc).1)
      have := ms_const hd hk' c (j - c) (by omega) (fun q x h1 h2 hx => by
        cases hq : chgA fs q x.op with
        | false => rfl
        | true => exact (no q h1 (by omega) ⟨x, hx, hq⟩).elim)
      rw [show c + (j - c) = j by omega] at this
      exact this.symm
  have hOn : Env.On G (es j) a (opTs ij.op) := fun t ht => by rw [← slot t (reads_of ht)]; exact hE.get t
  have hF := hA.full hF0
  -- what comes of it
  have fin : ∀ (v : NV) (V : Value) (G1 : Gh) (w1 : World) (c1 : Nat), es (j + 1) = updO (es j) ij.dst v → EnvR G1 (updO E ij.dst v) (a.put o.dst V) n → Adv G0 m0 w0 G1 (ms c1) w1 → c1 = (if chgA fs j ij.op = true then j + 1 else c) → Kt (a.put o.dst V) w1 := by
    intro v V G1 w1 c1 hes hE1 hA1 hc1
    refine next _ _ ⟨by simpa using hsz, fun i hki hl => ?_, fun i p hl hbp => ?_, ⟨G1, updO E ij.dst v, c1, hE1, hA1, ?_, ?_, fun t => ?_⟩, by rw [Nv.put_defers]; exact hds⟩
    · rcases (isL_set hjs).1 hl with rfl | hl
      · omega
      · exact hout i hki hl
    · rcases (isL_set hjs).1 hl with rfl | hl
      · exact (isL_set hjs).2 (.inr (hb p hbp))
      · exact (isL_set hjs).2 (.inr (hcl i p hl hbp))
    · rw [hc1]; split <;> omega
    · rw [hc1]
      split
      · rename_i hcc
        exact Cut.new hjs hn hcl hb (fun q hw hlt => by obtain ⟨x, hx, hdx⟩ := hw; exact hbd q j _ _ hlt hjk hx hi (bound_chg hdx (.inl hcc)).1)
          (fun q hq hw hlt => by obtain ⟨x, hx, hdx⟩ := hw; exact hbd j q _ _ hlt hq hi hx (bound_chg hcc (.inl hdx)).1)
      · rename_i hcc
        exact hcut.old hjs (by rintro ⟨x, hx, hdx⟩; rw [hi] at hx; obtain rfl := Option.some.inj hx; exact hcc hdx)
    · obtain ⟨p, hp, hEt, hc⟩ := hsl t
      by_cases hdt : ij.dst = some t
      · refine ⟨j + 1, by omega, ?_, ?_⟩
        · rw [hes, hdt]
          show upd E t v t = upd (es j) t v t
          simp [upd_def]
        · exact Cut.new hjs hn hcl hb (fun q hw hlt => by obtain ⟨x, hx, hdx⟩ := hw; exact hbd q j _ _ hlt hjk hx hi (touch_l hdx (dst_of hdt)))
            (fun q hq hw hlt => by obtain ⟨x, hx, hdx⟩ := hw; exact hbd j q _ _ hlt hq hi hx (touch_r hdx (dst_of hdt)))
      · refine ⟨p, hp, ?_, hc.old hjs (by rintro ⟨x, hx, hdx⟩; rw [hi] at hx; obtain rfl := Option.some.inj hx; exact hdt hdx)⟩
        rw [← hEt]
        cases hdd : ij.dst with
        | none => rfl
        | some d =>
          show upd E d v t = E t
          rw [upd_def]
          rw [if_neg]
          rintro rfl
          exact hdt hdd
  have hwant := wanted_ok (P := P) (n := n) (G := G) (ops := ops) (o := o) (e := es j) (a := a) (fun t ht => by
    obtain ⟨b, hg⟩ := ht
    rw [hii] at hg
    rw [← slot t (guard_of hg)]; exact hE.get t)
  rw [hii] at hwant
  have hdst : ij.dst = o.dst := by rw [← hii]; rfl
  cases hw : wantedN (es j) ij.guard with
  | false =>
    obtain ⟨h1, h2⟩ := hd.off _ _ hi' hw
    refine wpOp_off ho (hwant.2 hw) (fin .undef Go.undef G w (if chgA fs j ij.op = true then j + 1 else c) h1 ?_ ?_ rfl)
    · rw [hdst]; exact hE.skip
    · split
      · rename_i hcc
        rw [h2, ← mem (.inl hcc)]; exact hA
      · exact hA
  | true =>
    obtain ⟨v, H, hes⟩ := hd.on _ _ hi' hw
    have hnb : (compI P n ops o).op ≠ .bad := by
      rw [hii]
      rcases H with H1 | ⟨f, args, H1, _⟩
      · exact step_bad H1
      · exact asks_bad H1
    obtain ⟨hc, hdn, _⟩ := compI_ok hnb
    rw [hii] at hc hnb
    have hcall : ∀ f args, asks ij.op (es j) = some (f, args) → isCall ij.op = true := fun f args h => asks_call h
    have hcc' : chg ij.op = true → step ij.op (es j) (ms j) = some (v, ms (j + 1)) := fun hcc => by
      rcases H with H1 | ⟨f, args, H1, _⟩
      · exact H1
      · cases hop : ij.op <;> rw [hop] at H1 hcc <;> first | (cases H1; done) | (cases hcc; done)
    have go : ∀ {m1 : Mem}, Run1 K ij.op (es j) (ms c) v m1 → m1 = ms (if chgA fs j ij.op = true then j + 1 else c) → wpOp P ops Q j Kt a w := by
      intro m1 H hm1
      refine wpOp_on ho (hwant.1 hw hnb) (one_op hK hKc hc H hOn hA.rel hF fun V G1 w1 hR hadv => ?_)
      subst hm1
      refine fin v V G1 w1 _ hes ?_ (hA.trans hadv) rfl
      rw [hdst]
      exact (hE.mono hadv.ext).put hdn hR
    by_cases hcc : chgA fs j ij.op = true
    · have hmem := mem (.inl hcc)
      refine go (m1 := ms (j + 1)) ?_ (by rw [if_pos hcc])
      rw [hmem]
      rcases H with H1 | ⟨f, args, H1, H3⟩
      · exact .inl H1
      · refine .inr ⟨f, args, H1, headK_K H3 ?_⟩
        rw [Nat.zero_add]
        unfold chgA at hcc
        cases hop : ij.op <;> rw [hop] at H1 hcc <;> first | (cases H1; done) | (simp only [chg, isCall, Bool.false_or, Bool.true_and] at hcc; exact imB_not hcc)
    · have hcf0 : chgA fs j ij.op = false := by simpa using hcc
      have hcf : chg ij.op = false := by unfold chgA at hcf0; rw [Bool.or_eq_false_iff] at hcf0; exact hcf0.1
      refine go (m1 := ms c) ?_ (by rw [if_neg hcc])
      rcases H with H1 | ⟨f, args, H1, H3⟩
      · refine .inl ((step_calm hcf H1).2 (ms c) fun l i hr => ?_)
        obtain ⟨ob, hob⟩ := rdOf_some H1 hr
        rw [hob]
        rcases Nat.lt_or_ge j c with h | h
        · have := blk_const hd hk' hquiet l i j ob hob (c - j) (by omega) (fun q x h1 h2 hx hwx => by
            have key : chgA fs q x.op = true → j < q ∧ ((befs ops.toList).getD (0 + q) 0).testBit (0 + j) = false := fun hcx => by
              have hl := (hcut q (by omega) ⟨x, hx, hcx⟩).2 (by omega)
              have hqj : j < q := by
                rcases Nat.lt_or_ge j q with h | h
                · exact h
                · obtain rfl : q = j := by omega
                  exact absurd hl hn
              refine ⟨hqj, ?_⟩
              rw [Nat.zero_add, Nat.zero_add]
              cases hbt : ((befs ops.toList).getD q 0).testBit j with
              | false => rfl
              | true => exact absurd (hcl q j hl hbt) hn
            refine ⟨fun hwr => ?_, fun hcx hin => ?_⟩
            · have hcx : chgA fs q x.op = true := by
                cases hq : chg x.op with
                | true => unfold chgA; rw [hq]; rfl
                | false => rw [wrOf_calm hq] at hwr; cases hwr
              obtain ⟨hqj, hbit⟩ := key hcx
              exact (hd.apart j q ij x (l, i) hqj hi' (take_get (by omega) hx) hw hwx hbit).2 hr hwr
            · obtain ⟨hqj, hbit⟩ := key hcx
              exact (hd.apartC j q ij x (l, i) hqj hi' (take_get (by omega) hx) hw hwx hbit).2 hr hin)
          rwa [show j + (c - j) = c by omega] at this
        · obtain ⟨rb, hrb⟩ := rdOf_placed hc hOn hr
          obtain ⟨_, ob', hob'⟩ := hA.rel.lt _ _ _ hrb
          have := blk_const hd hk' hquiet l i c ob' hob' (j - c) (by omega) (fun q x h1 h2 hx hwx => by
            have key : chgA fs q x.op = true → ((befs ops.toList).getD (0 + j) 0).testBit (0 + q) = false := fun hcx => by
              have hl : ¬ isL listed q := fun hl => by
                have := (hcut q (by omega) ⟨x, hx, hcx⟩).1 hl
                omega
              rw [Nat.zero_add, Nat.zero_add]
              cases hbt : ((befs ops.toList).getD j 0).testBit q with
              | false => rfl
              | true => exact absurd (hb q hbt) hl
            refine ⟨fun hwr => ?_, fun hcx hin => ?_⟩
            · have hcx : chgA fs q x.op = true := by
                cases hq : chg x.op with
                | true => unfold chgA; rw [hq]; rfl
                | false => rw [wrOf_calm hq] at hwr; cases hwr
              exact (hd.apart q j x ij (l, i) (by omega) (take_get (by omega) hx) hi' hwx hw (key hcx)).1 hwr hr
            · exact (hd.apartC q j x ij (l, i) (by omega) (take_get (by omega) hx) hi' hwx hw (key hcx)).1 hin hr)
          rw [show c + (j - c) = j by omega, hob] at this
          rw [hob', ← this]
      · have hic : isCall ij.op = true := asks_call H1
        rw [Nat.zero_add] at H3
        cases hfr : frB fs j with
        | true =>
          rw [hfr] at H3
          exact .inr ⟨f, args, H1, hKa _ _ _ H3.1 _⟩
        | false =>
          have hms : ms (j + 1) = ms j := headK_same H3 (by
            unfold chgA at hcf0
            rw [hic, Bool.true_and, Bool.or_eq_false_iff] at hcf0
            exact hcf0.2)
          have H4 := headK_K H3 hfr
          rw [hms] at H4
          rw [mem (.inr ⟨hic, hfr⟩)]
          exact .inr ⟨f, args, H1, H4⟩
theorem ready_some {ops : Array Oper} {listed : Array Bool} (hb : backOk ops.toList 0 = true) (hs : listed.size = ops.size) {j : Nat} (hj : j < ops.size) (hn : ¬ isL listed j) (hall : ∀ i, i < j → isL listed i) : j ∈ Region.ready .any ops listed := by
  obtain ⟨o, ho⟩ : ∃ o, ops[j]? = some o := ⟨_, Array.getElem?_eq_getElem hj⟩
  refine mem_ready.2 ⟨?_, o, ho, fun e he hbi => hall _ ?_⟩
  · have e1 : listed.getD j true = listed.getD j false := by simp [Array.getD_eq_getD_getElem?, show j < listed.size by omega]
    rw [e1]
    simp only [isL] at hn
    simpa using hn
  · have := backOk_spec ops.toList 0 j o e hb (by simpa using ho) (by simpa using he) hbi
    omega
theorem least_not {listed : Array Bool} : ∀ (N : Nat), (∃ j, j < N ∧ ¬ isL listed j) → ∃ j, j < N ∧ ¬ isL listed j ∧ ∀ i, i < j → isL listed i
  | 0, ⟨j, h, _⟩ => by omega
  | N + 1, ⟨j, h, hn⟩ => by
    by_cases hq : ∃ j, j < N ∧ ¬ isL listed j
    · obtain ⟨i, h1, h2⟩ := least_not N hq
      exact ⟨i, by omega, h2⟩
    · have hall : ∀ i, i < N → isL listed i := fun i hi => Classical.byContradiction fun hc => hq ⟨i, hi, hc⟩
      obtain rfl : j = N := by
        rcases Nat.lt_or_ge j N with h' | h'
        · exact absurd (hall j h') hn
        · omega
      exact ⟨j, h, hn, hall⟩
theorem wpAny_of {ops : Array Oper} {Q : Exit → Act → World → Prop} {listed : Array Bool} {a : Act} {w : World} {fuel : Nat} (hb : backOk ops.toList 0 = true) (hs : listed.size = ops.size) (hc : cnt listed ops.size ≤ fuel)
    (hend : (∀ i, i < ops.size → isL listed i) → Q .normal a w)
    (hstep : ∀ f', fuel = f' + 1 → ∀ j, j ∈ Region.ready .any ops listed → wpOp P ops Q j (fun a' w' => cnt (listed.setIfInBounds j true) ops.size ≤ f' → wpAny P .any ops Q f' (listed.setIfInBounds j true) a' w') a w) : wpAny P .any ops Q fuel listed a w := by
  have none_left : Region.ready .any ops listed = [] → ∀ i, i < ops.size → isL listed i := by
    intro h i hi
    refine Classical.byContradiction fun hn => ?_
    obtain ⟨j, h1, h2, h3⟩ := least_not (listed := listed) ops.size ⟨i, hi, hn⟩
    have := ready_some hb hs h1 h2 h3
    rw [h] at this
    cases this
  cases fuel with
  | zero =>
    have hall := cnt_zero (Nat.le_zero.1 hc)
    refine ⟨?_, hend hall⟩
    cases hr : Region.ready .any ops listed with
    | nil => rfl
    | cons j l =>
      have hj : j ∈ Region.ready .any ops listed := by rw [hr]; exact List.mem_cons_self
      obtain ⟨hn, hlt⟩ := ready_not hs hj
      exact absurd (hall j hlt) hn
  | succ f' =>
    refine ⟨fun h => hend (none_left h), fun j hj => ?_⟩
    obtain ⟨hn, hlt⟩ := ready_not hs hj
    have := cnt_set hlt hs hn
    exact wpOp_mono (fun a' w' h => h (by omega)) (hstep f' rfl j hj)
theorem any_tail (hK : KSim P K) (hKc : Callable P K) {ops : Array Oper} {Q : Exit → Act → World → Prop} {e' : Env} {m' : Mem} (hb : backOk ops.toList 0 = true) (hk : k = tailAt (befs ops.toList) ops.size) :
    ∀ (fuel j : Nat) (listed : Array Bool) (e : Env) (m : Mem) (G : Gh) (a : Act) (w : World), listed.size = ops.size → (∀ i, isL listed i ↔ i < j) → k ≤ j → j ≤ ops.size → cnt listed ops.size ≤ fuel → Closed listed (befs ops.toList) →
      RunOps K ((ops.toList.map (compI P n ops)).drop j) e m e' m' → EnvR G e a n → Rel G m w → G.Full m → After Q .normal G m w e' m' n a.defers → wpAny P .any ops Q fuel listed a w := by
  intro fuel
  induction fuel with
  | zero =>
    intro j listed e m G a w hs hl hkj hjs hc hcl H hE hM hF hQ
    refine wpAny_of hb hs hc (fun hall => ?_) (fun f' h => by omega)
    have hj : j = ops.size := by
      rcases Nat.lt_or_ge j ops.size with h | h
      · have := (hl j).1 (hall j h); omega
      · omega
    rw [List.drop_eq_nil_of_le (by simp; omega)] at H
    obtain ⟨rfl, rfl⟩ := H
    exact hQ G a w (.refl hM) hE rfl
  | succ fuel ih =>
    intro j listed e m G a w hs hl hkj hjs hc hcl H hE hM hF hQ
    refine wpAny_of hb hs hc (fun hall => ?_) (fun f' hf i hi => ?_)
    · have hj : j = ops.size := by
        rcases Nat.lt_or_ge j ops.size with h | h
        · have := (hl j).1 (hall j h); omega
        · omega
      rw [List.drop_eq_nil_of_le (by simp; omega)] at H
      obtain ⟨rfl, rfl⟩ := H
      exact hQ G a w (.refl hM) hE rfl
    · obtain rfl : fuel = f' := by omega
      obtain ⟨hn, hlt⟩ := ready_not hs hi
      have hbit := ready_bits hcl hi
      have hij : i = j := by
        have h1 : ¬ i < j := fun h => hn ((hl i).2 h)
        rcases Nat.lt_or_ge j i with h | h
        · have := hbit j (tailAt_spec _ ops.size i j (by omega) hlt h)
          have := (hl j).1 this
          omega
        · omega
      subst hij
      obtain ⟨o, ho⟩ : ∃ o, ops[i]? = some o := ⟨_, Array.getElem?_eq_getElem hlt⟩
      have hdrop : (ops.toList.map (compI P n ops)).drop i = compI P n ops o :: (ops.toList.map (compI P n ops)).drop (i + 1) := by
        have := List.drop_eq_getElem_cons (l := ops.toList.map (compI P n ops)) (i := i) (by simpa using hlt)
        rw [this]
        congr 1
        rw [Array.getElem?_eq_getElem hlt] at ho
        simp [Option.some.inj ho]
      rw [hdrop] at H
      have hset : ∀ q, isL (listed.setIfInBounds i true) q ↔ q < i + 1 := fun q => by
        rw [isL_set (by omega), hl q]; omega
      have next : ∀ {e1 : Env} {m1 : Mem} {G1 : Gh} {a1 : Act} {w1 : World}, RunOps K ((ops.toList.map (compI P n ops)).drop (i + 1)) e1 m1 e' m' → EnvR G1 e1 a1 n → Rel G1 m1 w1 → G1.Full m1 → After Q .normal G1 m1 w1 e' m' n a1.defers →
          cnt (listed.setIfInBounds i true) ops.size ≤ fuel → wpAny P .any ops Q fuel (listed.setIfInBounds i true) a1 w1 := fun h1 h2 h3 h4 h5 h6 =>
        ih (i + 1) _ _ _ _ _ _ (by simpa using hs) hset (by omega) (by omega) h6 (fun x p hx hp => by
          rcases (isL_set (by omega)).1 hx with rfl | hx
          · exact (isL_set (by omega)).2 (.inr (hbit p hp))
          · exact (isL_set (by omega)).2 (.inr (hcl x p hx hp))) h1 h2 h3 h4 h5
      simp only [RunOps] at H
      obtain ⟨w1, w2⟩ := wanted_ok (P := P) (n := n) (G := G) (ops := ops) (o := o) (e := e) (a := a) (fun t _ => hE.get t)
      have hdst : (compI P n ops o).dst = o.dst := rfl
      split at H
      · rename_i hw
        obtain ⟨v, m1, H1, H2⟩ := H
        have hnb : (compI P n ops o).op ≠ .bad := by
          rcases H1 with H1 | ⟨f, args, H1, _⟩
          · exact step_bad H1
          · exact asks_bad H1
        obtain ⟨hcp, hd, _⟩ := compI_ok hnb
        rw [hdst] at H2
        refine wpOp_on ho (w1 hw hnb) (one_op hK hKc hcp H1 (hE.on _) hM hF fun V G1 w1 hR hadv h6 => ?_)
        exact next H2 ((hE.mono hadv.ext).put hd hR) hadv.rel (hadv.full hF) (by rw [Nv.put_defers]; exact hQ.step hadv) h6
      · rename_i hw
        refine wpOp_off ho (w2 (by simpa using hw)) fun h6 => ?_
        exact next H hE.skip hM hF (by rw [Nv.put_defers]; exact hQ) h6
theorem any_head (hK : KSim P K) (hKc : Callable P K) (hKa : KAny K) {ops : Array Oper} {G0 : Gh} {m0 : Mem} {w0 : World} {ds : List Deferred} {Q : Exit → Act → World → Prop} {e' : Env} {m' : Mem} (hb : backOk ops.toList 0 = true)
    (hk : k = tailAt (befs ops.toList) ops.size) (hF0 : G0.Full m0) (hok : headOk (befs ops.toList) fs (ops.toList.map (compI P n ops)) k = true)
    (hd : Head K (befs ops.toList) fs ((ops.toList.map (compI P n ops)).take k) es ms wss 0) (H : RunOps K ((ops.toList.map (compI P n ops)).drop k) (es k) (ms k) e' m') (hQ : After Q .normal G0 m0 w0 e' m' n ds) :
    ∀ (fuel : Nat) (listed : Array Bool) (a : Act) (w : World), Inv K n (befs ops.toList) fs (ops.toList.map (compI P n ops)) k es ms G0 m0 w0 ds listed a w → cnt listed ops.size ≤ fuel → wpAny P .any ops Q fuel listed a w := by
  have hkle : k ≤ ops.size := by rw [hk]; exact tailAt_le _ _
  have hkl : k ≤ (ops.toList.map (compI P n ops)).length := by simpa using hkle
  have done : ∀ (fuel : Nat) (listed : Array Bool) (a : Act) (w : World), Inv K n (befs ops.toList) fs (ops.toList.map (compI P n ops)) k es ms G0 m0 w0 ds listed a w → cnt listed ops.size ≤ fuel → (∀ i, i < k → isL listed i) → wpAny P .any ops Q fuel listed a w := by
    intro fuel listed a w hI hc hall
    obtain ⟨hsz, hout, hcl, ⟨G, E, c, hE, hA, hck, hcut, hsl⟩, hds⟩ := hI
    have hs : listed.size = ops.size := by simpa using hsz
    have hm : ms c = ms k := by
      have := ms_const hd hkl c (k - c) (by omega) (fun q x h1 h2 hx => by
        cases hq : chgA fs q x.op with
        | false => rfl
        | true =>
          have := (hcut q (by omega) ⟨x, hx, hq⟩).1 (hall q (by omega))
          omega)
      rw [show c + (k - c) = k by omega] at this
      exact this.symm
    have he : E = es k := by
      funext t
      obtain ⟨p, hp, hEt, hct⟩ := hsl t
      have := es_const hd hkl t p (k - p) (by omega) (fun q x h1 h2 hx hdx => by
        have := (hct q (by omega) ⟨x, hx, hdx⟩).1 (hall q (by omega))
        omega)
      rw [show p + (k - p) = k by omega] at this
      rw [hEt, this]
    subst he
    rw [hm] at hA
    refine any_tail hK hKc hb hk fuel k listed (es k) (ms k) G a w hs (fun i => ⟨fun hl => ?_, hall i⟩) (Nat.le_refl _) hkle hc hcl H hE hA.rel (hA.full hF0) ?_
    · rcases Nat.lt_or_ge i k with h | h
      · exact h
      · exact absurd hl (hout i h)
    · rw [hds]; exact hQ.step hA
  intro fuel
  induction fuel with
  | zero =>
    intro listed a w hI hc
    exact done 0 listed a w hI hc (fun i hi => cnt_zero (Nat.le_zero.1 hc) i (by omega))
  | succ fuel ih =>
    intro listed a w hI hc
    by_cases hall : ∀ i, i < k → isL listed i
    · exact done _ listed a w hI hc hall
    · have hs : listed.size = ops.size := by simpa using hI.size
      refine wpAny_of hb hs hc (fun h => absurd (fun i hi => h i (by omega)) hall) (fun f' hf j hj => ?_)
      obtain rfl : fuel = f' := by omega
      have hjk : j < k := by
        rcases Nat.lt_or_ge j k with h | h
        · exact h
        · obtain ⟨hn, hlt⟩ := ready_not hs hj
          exact absurd (fun i hi => ready_bits hI.closed hj i (tailAt_spec _ ops.size j i (by omega) hlt (by omega))) hall
      exact head_step hK hKc hKa hF0 hok hkle hd hI hj hjk fun a' w' hI' h6 => ih _ a' w' hI' h6
theorem region_drawn {K : Rel4} (hm : P.follows .mixedOrders = true) (hK : KSim P K) (hKc : Callable P K) (hKa : KAny K) {ops : Array Oper} {k : Nat} {bs : List Nat} {fs : Nat} {id : Nat} {e e1 e' : Env} {m m1 m' : Mem} {G : Gh} {a : Act} {w : World} {Q : Exit → Act → World → Prop}
    (hc : compR P n ops true = .region (ops.toList.map (compI P n ops)) (some (k, bs, fs))) (H1 : RunHead K bs fs ((ops.toList.map (compI P n ops)).take k) 0 [] [] e m e1 m1) (H2 : RunOps K ((ops.toList.map (compI P n ops)).drop k) e1 m1 e' m')
    (hE : EnvR G e a n) (hM : Rel G m w) (hF : G.Full m) (hQ : After Q .normal G m w e' m' n a.defers) : (Code.region id ops true).wp P Q a w := by
  simp only [compR] at hc
  split at hc
  · rename_i hok
    simp only [Bool.and_eq_true] at hok
    obtain ⟨hb, hok⟩ := hok
    simp only [NC.region.injEq, true_and, Option.some.injEq, Prod.mk.injEq] at hc
    obtain ⟨hk, rfl, hfs⟩ := hc
    rw [hfs, hk] at hok
    have hkle : k ≤ ops.size := by rw [← hk]; exact tailAt_le _ _
    obtain ⟨es, ms, wss, q1, q2, q3, q4, hd, _, _⟩ := head_of _ _ _ _ _ _ _ _ H1
    have hlen : ((ops.toList.map (compI P n ops)).take k).length = k := by simp; omega
    rw [hlen] at q3 q4
    subst q3; subst q4
    obtain ⟨hM', hst⟩ := rel_drew hM (w.drawn + 1)
    have hadv : Adv G m w G m { w with drawn := w.drawn + 1 } := ⟨.refl _, hM', hst, fun h => h⟩
    refine wp_region_any hm (any_head (ds := a.defers) hK hKc hKa hb hk.symm hF hok hd H2 hQ ops.size _ a _ ⟨by simp, fun i hki hl => ?_, fun i p hl _ => ?_, ⟨G, e, 0, hE, by rw [q2]; exact hadv, by omega, fun i hi hw => ?_, fun t => ⟨0, by omega, by rw [q1], fun i hi hw => ?_⟩⟩, rfl⟩ ?_)
    · exact absurd hl (by simp [isL, Array.getElem?_replicate]; split <;> simp)
    · exact absurd hl (by simp [isL, Array.getElem?_replicate]; split <;> simp)
    · exact ⟨fun hl => absurd hl (by simp [isL, Array.getElem?_replicate]; split <;> simp), fun h => by omega⟩
    · exact ⟨fun hl => absurd hl (by simp [isL, Array.getElem?_replicate]; split <;> simp), fun h => by omega⟩
    · unfold cnt
      exact Nat.le_trans List.countP_le_length (by simp)
  · cases hc
end
end Go.Proofs.Ythecdihimfddgaa.Nv
