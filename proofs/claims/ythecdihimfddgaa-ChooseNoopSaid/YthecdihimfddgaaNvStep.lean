/- Each operation that calls nobody: the model does what Nv reckons. Of no program. -/
import Derived.Test.YthecdihimfddgaaNvApp2
namespace Go.Proofs.Ythecdihimfddgaa.Nv
open Go Go.RowKit

section
variable {P : Program} {w : World} {G : Gh} {m m' : Mem} {e : Env} {a : Act} {v : NV}

theorem map_some {α β : Type} {f : α → β} {x : Option α} {y : β} (h : x.map f = some y) : ∃ z, x = some z ∧ f z = y := by
  obtain ⟨z, h1, h2⟩ := Option.map_eq_some_iff.1 h
  exact ⟨z, h1, h2⟩
theorem run_builtin {dst : Option Nat} {b : Builtin} {args : Array Operand} {ats : Array TypeId} {ty : TypeId} {pos : String} {aft : Array Edge} {grd : Option (Nat × Bool)} :
    ∃ consts, (execOp a.eval ⟨dst, .call ⟨.builtin b, args, ats⟩, ty, pos, aft, grd⟩).run P w = (builtin b ats ty consts (args.map a.eval)).run P w := by
  refine ⟨args.map fun | .const _ => true | _ => false, ?_⟩
  simp only [execOp, resolve, Sem.run_bind, Sem.run_pure, Result.andThen_ok, invoke]
  rfl
theorem run_v {s : Sem Value} : ((do pure (.value (← s)) : Sem Next)).run P w = (s.run P w).andThen fun v w' => .ok (.value v) w' := by
  simp only [Sem.run_bind, Sem.run_pure]
theorem toList_two {α : Type} {xs : Array α} {x y : α} (h : xs.toList = [x, y]) : xs = #[x, y] := Array.toList_inj.1 (by simpa using h)
theorem toList_one {α : Type} {xs : Array α} {x : α} (h : xs.toList = [x]) : xs = #[x] := Array.toList_inj.1 (by simpa using h)

theorem step_call {dst : Option Nat} {c : Call} {ty : TypeId} {pos : String} {aft : Array Edge} {grd : Option (Nat × Bool)} {op : NOp} (hc : compCall P c = some op) (hs : step op e m = some (v, m')) (hE : Env.On G e a (opTs op)) (hM : Rel G m w)
    (hV : ∀ l i rb, rdOf op e = some (l, i) → G.blks l i = some rb → G.vis l i) (hA : isApp op = true → ∀ l t, tok? m l t = true → G.live l t) (hP : quietOp op = true ∨ G.Full m) : Fares ((execOp a.eval ⟨dst, .call c, ty, pos, aft, grd⟩).run P w) G m m' w v := by
  obtain ⟨callee, args, ats⟩ := c
  unfold compCall at hc
  split at hc
  · rename_i f _
    split at hc
    · obtain ⟨xs, _, rfl⟩ := map_some hc
      cases hs
    · cases hc
  · obtain ⟨xs, _, rfl⟩ := map_some hc
    cases hs
  · rename_i hcal
    simp only at hcal
    subst hcal
    simp only at hc
    obtain ⟨consts, hrun⟩ := run_builtin (P := P) (w := w) (a := a) (dst := dst) (b := .append) (args := args) (ats := ats) (ty := ty) (pos := pos) (aft := aft) (grd := grd)
    split at hc
    · rename_i x y t u hx ht
      split at hc
      · rename_i el eu hel heu
        split at hc
        · rename_i n b z x' y' e1 e2 e3 e4 e5
          split at hc
          · rename_i hpos
            simp only [Option.some.injEq] at hc
            subst hc
            obtain rfl := toList_two hx
            obtain rfl := toList_two ht
            rw [hrun]
            have := st_app (w := w) (rt := ty) hel heu e1 e2 e3 hpos.1 e4 e5 hs hE hM (hA rfl)
            simpa only [builtin, run_v, List.map_toArray, List.map_cons, List.map_nil] using this
          · cases hc
        · cases hc
      · cases hc
    · cases hc
  · rename_i hcal
    simp only at hcal
    subst hcal
    simp only at hc
    obtain ⟨consts, hrun⟩ := run_builtin (P := P) (w := w) (a := a) (dst := dst) (b := .len) (args := args) (ats := ats) (ty := ty) (pos := pos) (aft := aft) (grd := grd)
    split at hc
    · rename_i x t hx ht
      obtain rfl := toList_one hx
      obtain rfl := toList_one ht
      have fin : ∀ {k : LK} {x' : Opd}, LKof P t k → opd x = some x' → op = .len k x' → Fares ((execOp a.eval ⟨dst, .call ⟨.builtin .len, #[x], #[t]⟩, ty, pos, aft, grd⟩).run P w) G m m' w v := by
        intro k x' h1 h2 h3
        subst h3
        rw [hrun]
        have := fares_good (st_len (w := w) (rt := ty) h1 h2 hs hE hM hV)
        simpa only [builtin, run_v, List.map_toArray, List.map_cons, List.map_nil] using this
      split at hc
      · rename_i n el hu
        obtain ⟨x', h1, rfl⟩ := map_some hc
        exact fin (k := .arr n) ⟨el, hu⟩ h1 rfl
      · rename_i hu
        obtain ⟨x', h1, rfl⟩ := map_some hc
        exact fin (k := .str) hu h1 rfl
      · rename_i el hu
        obtain ⟨x', h1, rfl⟩ := map_some hc
        exact fin (k := .slc) ⟨el, hu⟩ h1 rfl
      · rename_i kt el hu
        obtain ⟨x', h1, rfl⟩ := map_some hc
        exact fin (k := .map) ⟨kt, el, hu⟩ h1 rfl
      · cases hc
    · cases hc
  · rename_i hcal
    simp only at hcal
    subst hcal
    simp only at hc
    obtain ⟨consts, hrun⟩ := run_builtin (P := P) (w := w) (a := a) (dst := dst) (b := .max) (args := args) (ats := ats) (ty := ty) (pos := pos) (aft := aft) (grd := grd)
    obtain ⟨xs, h1, rfl⟩ := map_some hc
    rw [hrun]
    have := fares_good (st_mm (P := P) (max := true) (ts := ats) (rt := ty) (w := w) h1 hs hE hM)
    have e1 : (args.toList.map a.eval).toArray = args.map a.eval := by rw [← Array.toList_map]
    simpa only [builtin, run_v, e1, if_true] using this
  · rename_i hcal
    simp only at hcal
    subst hcal
    simp only at hc
    obtain ⟨consts, hrun⟩ := run_builtin (P := P) (w := w) (a := a) (dst := dst) (b := .min) (args := args) (ats := ats) (ty := ty) (pos := pos) (aft := aft) (grd := grd)
    obtain ⟨xs, h1, rfl⟩ := map_some hc
    rw [hrun]
    have := fares_good (st_mm (P := P) (max := false) (ts := ats) (rt := ty) (w := w) h1 hs hE hM)
    have e1 : (args.toList.map a.eval).toArray = args.map a.eval := by rw [← Array.toList_map]
    simpa only [builtin, run_v, e1, Bool.false_eq_true, if_false] using this
  · rename_i hcal
    simp only at hcal
    subst hcal
    simp only at hc
    obtain ⟨consts, hrun⟩ := run_builtin (P := P) (w := w) (a := a) (dst := dst) (b := .delete) (args := args) (ats := ats) (ty := ty) (pos := pos) (aft := aft) (grd := grd)
    split at hc
    · rename_i mo k t u hx ht
      obtain rfl := toList_two hx
      obtain rfl := toList_two ht
      split at hc
      · rename_i kt el hu
        split at hc
        · rename_i key mo' k' e1 e2 e3
          simp only [Option.some.injEq] at hc
          subst hc
          rw [hrun]
          have := st_del (w := w) (rt := ty) (u := u) hu e1 e2 e3 hs hE hM (hP.resolve_left (by simp [quietOp]))
          simpa only [builtin, run_v, List.map_toArray, List.map_cons, List.map_nil] using this
        · cases hc
      · cases hc
    · cases hc
  · cases hc
/-- Each operation that calls nobody. -/
theorem step_ok {o : Oper} {op : NOp} (hc : comp1 P o.op o.type = some op) (hs : step op e m = some (v, m')) (hE : Env.On G e a (opTs op)) (hM : Rel G m w)
    (hV : ∀ l i rb, rdOf op e = some (l, i) → G.blks l i = some rb → G.vis l i) (hW : ∀ l i rb, wrOf op e = some (l, i) → G.blks l i = some rb → G.vis l i) (hT : isStore op = true → calmS op e = true ∨ G.Full m) (hA : isApp op = true → ∀ l t, tok? m l t = true → G.live l t) (hP : quietOp op = true ∨ G.Full m) :
    Fares ((execOp a.eval o).run P w) G m m' w v := by
  obtain ⟨dst, opr, ty, pos, aft, grd⟩ := o
  simp only at hc
  cases opr <;> simp only [comp1] at hc <;> try (cases hc; done)
  case move x =>
    obtain ⟨y, h1, rfl⟩ := map_some hc
    exact fares_good (st_mv h1 hs hE hM)
  case assign x =>
    obtain ⟨y, h1, rfl⟩ := map_some hc
    exact fares_good (st_mv h1 hs hE hM)
  case pick c x y =>
    split at hc
    · rename_i c' x' y' h1 h2 h3
      simp only [Option.some.injEq] at hc
      subst hc
      exact fares_good (st_pick h1 h2 h3 hs hE hM)
    · cases hc
  case alloc t =>
    obtain ⟨z, h1, rfl⟩ := map_some hc
    exact st_new h1 hs hM
  case box t x =>
    obtain ⟨y, h1, rfl⟩ := map_some hc
    exact st_box h1 hs hE hM
  case build t parts =>
    split at hc
    · rename_i z fs hz hu
      split at hc
      · rename_i hall
        obtain ⟨ps, h1, rfl⟩ := map_some hc
        exact st_build hz (.inl ⟨fs, hu, h1, fun f hf => Option.isSome_iff_exists.1 (List.all_eq_true.1 hall f hf)⟩) hs hE hM
      · cases hc
    · rename_i z n el hz hu
      split at hc
      · rename_i k hk
        obtain ⟨ps, h1, rfl⟩ := map_some hc
        exact st_build hz (.inr ⟨n, el, k, hu, hk, h1⟩) hs hE hM
      · cases hc
    · cases hc
  case buildSlice t len parts =>
    split at hc
    · rename_i el hu
      split at hc
      · rename_i n z hn hz
        split at hc
        · rename_i hcond
          obtain ⟨ps, h1, rfl⟩ := map_some hc
          exact st_bslc hu hn hz hcond.1 hcond.2 h1 hs hE hM
        · cases hc
      · cases hc
    · cases hc
  case load t x =>
    split at hc
    · rename_i ag n ha hn
      obtain ⟨y, h1, rfl⟩ := map_some hc
      exact fares_good (st_load ha hn h1 hs hE hM hV)
    · cases hc
  case store t x y =>
    split at hc
    · rename_i n hn
      obtain ⟨x', y', h1, h2, rfl⟩ := opt2_some hc
      exact st_store hn h1 h2 hs hE hM hW (hT rfl)
    · cases hc
  case nilCheck x =>
    obtain ⟨y, h1, rfl⟩ := map_some hc
    exact fares_good (st_nchk h1 hs hE hM)
  case binOp bop t x y yt =>
    have eqn : ∀ {k : EK} {neg : Bool}, bop = (if neg then .neq else .eql) → EKof P t k → opt2 (.eq k neg) (opd x) (opd y) = some op → Fares ((execOp a.eval ⟨dst, .binOp bop t x y yt, ty, pos, aft, grd⟩).run P w) G m m' w v := by
      intro k neg hb hk hq
      obtain ⟨x', y', h1, h2, rfl⟩ := opt2_some hq
      subst hb
      exact fares_good (st_eq hk h1 h2 hs hE hM)
    have bin : ∀ {b : BinOp}, bop = b → opt2 (.bin b) (opd x) (opd y) = some op → Fares ((execOp a.eval ⟨dst, .binOp bop t x y yt, ty, pos, aft, grd⟩).run P w) G m m' w v := by
      intro b hb hq
      obtain ⟨x', y', h1, h2, rfl⟩ := opt2_some hq
      subst hb
      exact fares_good (st_bin h1 h2 hs hE hM)
    cases bop
    case eql =>
      simp only at hc
      split at hc
      · exact bin rfl hc
      · exact bin rfl hc
      · rename_i hu; exact eqn (k := .key ⟨false, [.bool]⟩) (neg := false) rfl (Or.inl ⟨rfl, hu⟩) hc
      · rename_i el hu; exact eqn (k := .ptr) (neg := false) rfl ⟨el, hu⟩ hc
      · rename_i fs hu
        split at hc
        · rename_i kt hk
          split at hc
          · cases hc
          · rename_i hg
            refine eqn (k := .key kt) (neg := false) rfl (Or.inr ⟨?_, hk, by simpa using hg⟩) hc
            have := (keyT_spec hk).2
            simp only [aggS, hu, Option.some.injEq] at this
            exact this.symm
        · cases hc
      · cases hc
    case neq =>
      simp only at hc
      split at hc
      · exact bin rfl hc
      · exact bin rfl hc
      · rename_i hu; exact eqn (k := .key ⟨false, [.bool]⟩) (neg := true) rfl (Or.inl ⟨rfl, hu⟩) hc
      · rename_i el hu; exact eqn (k := .ptr) (neg := true) rfl ⟨el, hu⟩ hc
      · rename_i fs hu
        split at hc
        · rename_i kt hk
          split at hc
          · cases hc
          · rename_i hg
            refine eqn (k := .key kt) (neg := true) rfl (Or.inr ⟨?_, hk, by simpa using hg⟩) hc
            have := (keyT_spec hk).2
            simp only [aggS, hu, Option.some.injEq] at this
            exact this.symm
        · cases hc
      · cases hc
    all_goals exact bin rfl hc
  case unOp uop t x =>
    obtain ⟨y, h1, rfl⟩ := map_some hc
    exact fares_good (st_un h1 hs hE hM)
  case convert s d x =>
    split at hc
    · rename_i k0 k hu1 hu2
      obtain ⟨y, h1, rfl⟩ := map_some hc
      exact fares_good (st_i2i hu1 hu2 h1 hs hE hM)
    · rename_i hu1 hu2
      obtain ⟨y, h1, rfl⟩ := map_some hc
      exact fares_good (st_same hu1 hu2 h1 hs hE hM)
    · rename_i el hu1 hu2
      split at hc
      · rename_i hu3
        obtain ⟨y, h1, rfl⟩ := map_some hc
        exact st_s2b hu1 hu2 hu3 h1 hs hE hM
      · cases hc
    · rename_i el hu1 hu2
      split at hc
      · rename_i hu3
        obtain ⟨y, h1, rfl⟩ := map_some hc
        exact fares_good (st_b2s hu1 hu2 hu3 h1 hs hE hM hV)
      · cases hc
    · cases hc
  case makeFunc fn first cap =>
    cases fn <;> simp only at hc <;> try (cases hc; done)
    split at hc
    · rename_i h0
      obtain ⟨cs, h1, rfl⟩ := map_some hc
      exact st_mkfn h0 h1 hs hE hM
    · cases hc
  case makeMap t r =>
    cases r with
    | none =>
      simp only [Option.some.injEq] at hc
      subst hc
      exact st_mkmap (.inl rfl) hs hM
    | some r =>
      split at hc
      · cases ‹_ = none›
      · rename_i k n hr
        split at hc
        · rename_i kt el hu
          simp only [Option.some.injEq] at hc
          subst hc
          exact st_mkmap (.inr ⟨⟨k, n, hr⟩, kt, el, hu⟩) hs hM
        · cases hc
      · cases hc
  case makeSlice t lo co =>
    split at hc
    · rename_i el hu
      split at hc
      · rename_i n b z hn hb hz
        split at hc
        · rename_i hcond
          obtain ⟨x', y', h1, h2, rfl⟩ := opt2_some hc
          exact st_mkslc hu hn hb hz hcond.1 hcond.2 h1 h2 hs hE hM
        · cases hc
      · cases hc
    · cases hc
  case slice t x lo hi mx =>
    split at hc
    · rename_i x' lo' hi' mx' h1 h2 h3 h4
      split at hc
      · rename_i n el hu
        obtain ⟨z, hz, rfl⟩ := map_some hc
        exact fares_good (st_slice (.inr (.inl ⟨n, el, z, rfl, hu, hz⟩)) h1 h2 h3 h4 hs hE hM)
      · rename_i hu
        simp only [Option.some.injEq] at hc
        subst hc
        exact fares_good (st_slice (.inl ⟨rfl, hu⟩) h1 h2 h3 h4 hs hE hM)
      · rename_i el hu
        obtain ⟨z, hz, rfl⟩ := map_some hc
        exact fares_good (st_slice (.inr (.inr ⟨el, z, rfl, hu, hz⟩)) h1 h2 h3 h4 hs hE hM)
      · cases hc
    · cases hc
  case fieldAddr t x f =>
    split at hc
    · rename_i fs hu
      split at hc
      · rename_i fd hf
        split at hc
        · rename_i n hn
          split at hc
          · cases hc
          · rename_i hz
            obtain ⟨y, h1, rfl⟩ := map_some hc
            exact fares_good (st_faddr hu hf hn hz h1 hs hE hM)
        · cases hc
      · cases hc
    · cases hc
  case field t x f =>
    split at hc
    · rename_i fs hu
      split at hc
      · rename_i fd hf
        split at hc
        · rename_i ag n ha hn
          obtain ⟨y, h1, rfl⟩ := map_some hc
          exact fares_good (st_field hu hf ha hn h1 hs hE hM)
        · cases hc
      · cases hc
    · cases hc
  case indexAddr t x i =>
    split at hc
    · rename_i n el hu
      split at hc
      · rename_i z hz
        obtain ⟨x', y', h1, h2, rfl⟩ := opt2_some hc
        exact fares_good (st_iaddr (.inl ⟨n, el, z, rfl, hu, hz⟩) h1 h2 hs hE hM)
      · cases hc
    · rename_i el hu
      split at hc
      · rename_i z hz
        obtain ⟨x', y', h1, h2, rfl⟩ := opt2_some hc
        exact fares_good (st_iaddr (.inr ⟨el, z, rfl, hu, hz⟩) h1 h2 hs hE hM)
      · cases hc
    · cases hc
  case index t x i =>
    split at hc
    · rename_i n el hu
      split at hc
      · rename_i z ag hz ha
        obtain ⟨x', y', h1, h2, rfl⟩ := opt2_some hc
        exact fares_good (st_index (.inr ⟨n, el, z, rfl, hu, hz, ha⟩) h1 h2 hs hE hM)
      · cases hc
    · rename_i hu
      obtain ⟨x', y', h1, h2, rfl⟩ := opt2_some hc
      exact fares_good (st_index (.inl ⟨rfl, hu⟩) h1 h2 hs hE hM)
    · cases hc
  case lookup t mo k ok =>
    split at hc
    · rename_i kt el hu
      split at hc
      · rename_i z hz
        split at hc
        · rename_i key hk
          obtain ⟨x', y', h1, h2, rfl⟩ := opt2_some hc
          exact fares_good (st_look hu hz hk h1 h2 hs hE hM hV)
        · cases hc
      · cases hc
    · cases hc
  case mapUpdate t mo k x =>
    split at hc
    · rename_i kt el hu
      split at hc
      · rename_i key mo' k' x' hk h1 h2 h3
        simp only [Option.some.injEq] at hc
        subst hc
        obtain ⟨w', G', hr, rfl, hadv⟩ := st_put (w := w) hu hk h1 h2 h3 hs hE hM (hP.resolve_left (by simp [quietOp]))
        refine ⟨Go.undef, w', G', .inr ⟨?_, rfl⟩, .two .undef, hadv⟩
        simp only [execOp, Sem.run_bind, hr, Result.andThen_ok, Sem.run_pure]
      · cases hc
    · cases hc
  case insert t mo k x =>
    split at hc
    · rename_i kt el hu
      split at hc
      · rename_i key mo' k' x' hk h1 h2 h3
        simp only [Option.some.injEq] at hc
        subst hc
        obtain ⟨w', G', hr, rfl, hadv⟩ := st_put (w := w) hu hk h1 h2 h3 hs hE hM (hP.resolve_left (by simp [quietOp]))
        refine ⟨Go.undef, w', G', .inr ⟨?_, rfl⟩, .two .undef, hadv⟩
        simp only [execOp, Sem.run_bind, hr, Result.andThen_ok, Sem.run_pure]
      · cases hc
    · cases hc
  case extract x i =>
    obtain ⟨y, h1, rfl⟩ := map_some hc
    exact fares_good (st_ext h1 hs hE hM)
  case call c => exact step_call hc hs hE hM hV hA hP
end
end Go.Proofs.Ythecdihimfddgaa.Nv
