/- What the abstract machine computes, the model does: for every call whose functions pass the check codeOk. -/
import Derived.Test.YtldbjaobpkdhnaaDoorAmSched
set_option linter.unusedVariables false
set_option linter.unusedSimpArgs false
namespace Go.AM
open Go Go.RowKit

def resM (tm : Array Value) : ResultVar → Sem Value
  | .tmp t => pure (tm.getD t Go.undef)
  | .cell a t => do loadVar t (← asAddr (tm.getD a Go.undef))
theorem results_eq (fn : Func) (tm : Array Value) : results fn tm = (do
    let vs ← fn.results.mapM (resM tm)
    pure (if h : vs.size = 1 then vs[0] else .tuple vs)) := rfl

theorem Inv.eqv {GL : List (Nat × List PV)} {B0 : Nat} {w0 : World} {g : G} {tm : Array Value} {w : World} {s s' : S} (hI : Inv GL B0 w0 g s'.env s'.σ tm w) (he : Eqv s s') : Inv GL B0 w0 g s.env s.σ tm w := by
  have e := he.σ
  rw [← e]
  exact ⟨hI.below, hI.base, hI.fz, hI.tlt, hI.own, fun t => by rw [← he.env t]; exact hI.env t, hI.objs, hI.len, hI.glob, hI.mlt⟩

theorem step_scope {P : Program} {b : Frame} {a : Act} {k : List Item} {cs : List Frame} {w : World} {c : Code} : step P (lone (b.at a (.code (.scope c) :: k)) cs w) = .next (lone (b.at a (.code c :: .inScope c :: k)) cs w) :=
  step_lone_go (by simp [Go.stepG, Go.stepG.exec, Frame.at])
theorem step_inScope {P : Program} {b : Frame} {a : Act} {k : List Item} {cs : List Frame} {w : World} {c : Code} : step P (lone (b.at a (.inScope c :: k)) cs w) = .next (lone (b.at a k) cs w) :=
  step_lone_go (by simp [Go.stepG, Go.stepG.exec, Frame.at])
theorem wp_scope {P : Program} {Q : Exit → Act → World → Prop} {a : Act} {w : World} {c : Code} (hg : ∀ l a w, ¬ Q (.goto l) a w) (h : c.wp P Q a w) : (Code.scope c).wp P Q a w := by
  intro b k cs
  obtain ⟨e, a₁, w₁, hq, harr⟩ := h b (.inScope c :: k) cs
  cases e with
  | normal => exact ⟨.normal, a₁, w₁, hq, .head step_scope (Steps.trans harr (.one step_inScope))⟩
  | exit id => exact ⟨_, a₁, w₁, hq, fun k' hk => .head step_scope (harr k' (by simp [exitTo, hk]))⟩
  | goto l => exact absurd hq (hg l a₁ w₁)
  | ret => exact ⟨_, a₁, w₁, hq, .of_steps (.one step_scope) harr⟩
  | panic ch => exact ⟨_, a₁, w₁, hq, .of_steps (.one step_scope) harr⟩
  | outgrown => exact ⟨_, a₁, w₁, hq, .of_steps (b := b) (k := k) (cs := cs) (e := .outgrown) (.one step_scope) harr⟩

/-- the functions that are walked are in order -/
def FnsOk (P : Program) (H : FuncId → FH) : Prop :=
  P.follows .mixedOrders = true ∧ ∀ f fn c, P.funcs[f]? = some fn → fn.body = some c → (H f).ok = true → codeOk H (H f) fn.ntmps c = true ∧ (fn.name == "runtime.NumGoroutine") = false

section
variable {GL : List (Nat × List PV)} {ty : List TI} {P : Program} {H : FuncId → FH}

theorem callK_yld (k : Nat) (id : Nat) (args : List AV) (σ : List AObj) : callK P ⟨ty, GL⟩ H k (.yld id) args σ = none := by
  cases k with
  | zero => rw [callK]
  | succ k =>
    rw [callK]
    cases k with
    | zero => rw [bodyK]; rfl
    | succ k => rw [bodyK]; rfl

/-- what a call that returns is made of -/
theorem callK_ret {k f : Nat} {args : List AV} {σ σ' : List AObj} {v : AV} (h : callK P ⟨ty, GL⟩ H k (.fn f) args σ = some (.ret v, σ')) :
    ∃ k' fn c e s, k = k' + 2 ∧ P.funcs[f]? = some fn ∧ fn.body = some c ∧ (H f).ok = true ∧ evC P ⟨ty, GL⟩ H k' f σ.length 0 c { env := envOf 0 args, σ := σ } = some (e, s) ∧ (e = .normal ∨ e = .ret) ∧ finish ⟨ty, GL⟩ (H f) σ.length fn.results.toList s = some (.ret v, σ') := by
  cases k with
  | zero => rw [callK] at h; cases h
  | succ k =>
    rw [callK] at h
    obtain ⟨q, hq, hr⟩ := Option.bind_eq_some_iff.1 h
    cases k with
    | zero => rw [bodyK] at hq; cases hq
    | succ k =>
      rw [bodyK] at hq
      unfold bodyF at hq
      dsimp only at hq
      split at hq
      · rename_i fn hf
        split at hq
        · rename_i c hc
          split at hq
          · cases hq
          · rename_i hok
            obtain ⟨r, hr1, hr2⟩ := Option.bind_eq_some_iff.1 hq
            obtain ⟨p, hp, hp2⟩ := Option.bind_eq_some_iff.1 hr2
            obtain ⟨e, s⟩ := r
            have hd : ∀ {k : Nat} {pv : Option PV} {s : S} {r : Option PV × S}, dfsK P ⟨ty, GL⟩ H k pv s = some r → r = (pv, s) := by
              intro k pv s r h
              cases k with
              | zero => rw [dfsK] at h; cases h
              | succ k =>
                rw [dfsK] at h
                unfold dfsF at h
                split at h
                · injection h with h; exact h.symm
                · cases h
            cases hdk : dfsK P ⟨ty, GL⟩ H k p.1 p.2 with
            | none => rw [hdk] at hp2; cases hp2
            | some z =>
              rw [hdk, hd hdk] at hp2
              obtain ⟨p1, p2⟩ := p
              cases p1 with
              | some pv =>
                simp only [endBody] at hp2
                injection hp2 with hp2; subst hp2
                injection hr with hr; injection hr with hr _; cases hr
              | none =>
                simp only [endBody] at hp2
                have he : (e = .normal ∨ e = .ret) ∧ p2 = s := by
                  unfold panOf at hp
                  split at hp
                  · rename_i he; injection he with h1 h2; injection hp with hp; injection hp with _ hp; exact ⟨.inl h1, by rw [← hp, h2]⟩
                  · rename_i he; injection he with h1 h2; injection hp with hp; injection hp with _ hp; exact ⟨.inr h1, by rw [← hp, h2]⟩
                  · injection hp with hp; injection hp with hp _; cases hp
                  · cases hp
                obtain ⟨he1, rfl⟩ := he
                split at hp2
                · rename_i o σ'' hfin
                  injection hp2 with hp2; subst hp2
                  injection hr with hr; injection hr with h1 h2
                  simp only at h1 h2
                  subst h1; subst h2
                  exact ⟨k, fn, c, e, p2, rfl, hf, hc, by simpa using hok, hr1, he1, hfin⟩
                · cases hp2
        · cases hq
      · cases hq

theorem finish_some {h : FH} {base : Nat} {rs : List ResultVar} {s : S} {o : Out} {σ' : List AObj} (hf : finish ⟨ty, GL⟩ h base rs s = some (o, σ')) : ∃ v v', resultsOf ⟨ty, GL⟩ s rs = some v ∧ retV (finN h base s) s.σ v = some v' ∧ o = .ret v' ∧ σ' = s.σ.take (finN h base s) := by
  unfold finish at hf
  split at hf
  · rename_i v hv
    split at hf
    · rename_i v' hv'
      injection hf with hf; injection hf with h1 h2
      exact ⟨v, v', hv, hv', h1.symm, h2.symm⟩
    · cases hf
  · cases hf
theorem callK_lt {k : Nat} (f : FuncId) (args : List AV) (v : AV) (σ' : List AObj) (hp : (H f).pu = true) (h : callK P ⟨ty, GL⟩ H k (.fn f) args [] = some (.ret v, σ')) : ltV 0 v = true := by
  obtain ⟨k', fn, c, e, s, _, _, _, _, _, _, hfin⟩ := callK_ret h
  obtain ⟨x, v', _, hr, ho, _⟩ := finish_some hfin
  injection ho with ho; subst ho
  have : finN (H f) ([] : List AObj).length s = 0 := by simp [finN, hp]
  rw [this] at hr
  exact retV_lt hr

variable {B0 : Nat} {w0 : World} {g : G} {tm : Array Value} {w : World}

theorem res_one (hT : TabOk P ⟨ty, GL⟩) {s : S} (hI : Inv GL B0 w0 g s.env s.σ tm w) {r : ResultVar} {v : AV} (hr : resOf ⟨ty, GL⟩ s r = some v) : ∃ V t0, (resM tm r).run P w = .ok V w ∧ RelS g t0 v V := by
  cases r with
  | tmp t =>
    injection hr with hr; subst hr
    exact ⟨_, t, rfl, hI.env t⟩
  | cell a t =>
    unfold resOf at hr
    dsimp only at hr
    split at hr
    · rename_i v0 hv0
      injection hr with hr; subst hr
      obtain ⟨ad, V, e, hV, hR⟩ := loadV_rel (P := P) hT hI (x := .tmp a) hv0
      refine ⟨V, 0, ?_, RelS.of_A hR⟩
      have e' : tm.getD a Go.undef = .pointer (some ad) := e
      unfold resM
      simp only [e', Sem.run_bind]
      simp [asAddr, hV]
    · cases hr
theorem res_all (hT : TabOk P ⟨ty, GL⟩) {s : S} (hI : Inv GL B0 w0 g s.env s.σ tm w) : ∀ {rs : List ResultVar} {vs : List AV}, resL ⟨ty, GL⟩ s rs = some vs → ∃ Vs, (rs.mapM (resM tm)).run P w = .ok Vs w ∧ vs.length = Vs.length ∧ Vs.length = rs.length ∧ ∀ (i : Nat) v, vs[i]? = some v → ∃ V t0, Vs[i]? = some V ∧ RelS g t0 v V
  | [], vs, h => by
    simp [resL] at h; subst h
    exact ⟨[], by simp, rfl, rfl, fun i v hv => by simp at hv⟩
  | r :: rs, vs, h => by
    simp only [resL] at h
    split at h
    · rename_i v l h1 h2
      injection h with h; subst h
      obtain ⟨V, t0, hV, hR⟩ := res_one (P := P) hT hI h1
      obtain ⟨Vs, hVs, hl, hl2, hRs⟩ := res_all hT hI h2
      refine ⟨V :: Vs, by simp [hV, hVs], by simp [hl], by simp [hl2], fun i x hx => ?_⟩
      cases i with
      | zero => simp at hx; subst hx; exact ⟨V, t0, by simp, hR⟩
      | succ i => simp at hx; simpa using hRs i x hx
    · cases h
theorem results_rel (hT : TabOk P ⟨ty, GL⟩) {s : S} (hI : Inv GL B0 w0 g s.env s.σ tm w) {fn : Func} {v : AV} (hr : resultsOf ⟨ty, GL⟩ s fn.results.toList = some v) : ∃ V t0, (results fn tm).run P w = .ok V w ∧ RelS g t0 v V := by
  rw [results_eq, Array.mapM_eq_mapM_toList]
  unfold resultsOf at hr
  split at hr
  · rename_i r he
    obtain ⟨V, t0, hV, hR⟩ := res_one (P := P) hT hI hr
    refine ⟨V, t0, ?_, hR⟩
    rw [he]
    simp [hV]
  · rename_i l hne
    split at hr
    · rename_i vs hvs
      injection hr with hr; subst hr
      obtain ⟨Vs, hVs, hl, hl2, hRs⟩ := res_all (P := P) hT hI hvs
      have hn1 : Vs.length ≠ 1 := fun e => by
        rw [hl2] at e
        match hq : fn.results.toList, e with
        | [r], _ => exact hne r hq
      refine ⟨.tuple Vs.toArray, 0, ?_, RelS.of_A (mkTup_rel ?_)⟩
      · simp [hVs, hn1]
      · have hce : ∀ l : List AV, copyAs l = l.map copyA := fun l => by
          induction l with
          | nil => rfl
          | cons a l ih => simp [copyAs, ih]
        rw [hce]
        refine RelAL.mk (by simpa using hl) fun i c hc => ?_
        rw [List.getElem?_map] at hc
        obtain ⟨c', hc', rfl⟩ := Option.map_eq_some_iff.1 hc
        obtain ⟨V, t0, hV, hR⟩ := hRs i c' hc'
        exact ⟨V, hV, RelX.copy (x := .tmp t0) hR⟩
    · cases hr

theorem EvPost.of {a a1 : Act} {g1 : G} {w1 : World} {e : Ex} {s' : S} (hP : Post g w g1 w1) (h1 : a1.tmps.size = a.tmps.size) (h2 : a1.defers = a.defers) {x : Exit} {a' : Act} {w' : World} (h : EvPost GL B0 w0 g1 w1 a1 e s' x a' w') : EvPost GL B0 w0 g w a e s' x a' w' := by
  obtain ⟨hx, g', hI, hP', hz, hd⟩ := h
  exact ⟨hx, g', hI, hP.trans hP', hz.trans h1, hd.trans h2⟩

/-- what the abstract machine computes, the machine does -/
theorem sim (hT : TabOk P ⟨ty, GL⟩) (hF : FnsOk P H) : ∀ k,
    (∀ fi base blk c s e s' N, evC P ⟨ty, GL⟩ H k fi base blk c s = some (e, s') → (∀ v, e ≠ .pan v) → codeOk H (H fi) N c = true → ∀ B0 w0 g (a : Act) w, Inv GL B0 w0 g s.env s.σ a.tmps w → N ≤ a.tmps.size → base ≤ s.σ.length → c.wp P (EvPost GL B0 w0 g w a e s') a w) ∧
    (∀ fi base blk c s e s' N, evC P ⟨ty, GL⟩ H k fi base blk (.loop c) s = some (e, s') → (∀ v, e ≠ .pan v) → codeOk H (H fi) N c = true → ∀ B0 w0 g (a : Act) w, Inv GL B0 w0 g s.env s.σ a.tmps w → N ≤ a.tmps.size → base ≤ s.σ.length → wpL P c (EvPost GL B0 w0 g w a e s') a w) ∧
    CallSim P GL (callK P ⟨ty, GL⟩ H k)
  | 0 => ⟨fun _ _ _ _ _ _ _ _ h => (by rw [evC] at h; cases h), fun _ _ _ _ _ _ _ _ h => (by rw [evC] at h; cases h), fun _ _ _ _ _ h => (by rw [callK] at h; cases h)⟩
  | k + 1 => by
    obtain ⟨ihE, ihL, ihC⟩ := sim hT hF k
    have hgr := (ev_grows (P := P) (T := ⟨ty, GL⟩) (H := H) k).1
    have loop : ∀ fi base blk c s e s' N, evC P ⟨ty, GL⟩ H (k + 1) fi base blk (.loop c) s = some (e, s') → (∀ v, e ≠ .pan v) → codeOk H (H fi) N c = true → ∀ B0 w0 g (a : Act) w, Inv GL B0 w0 g s.env s.σ a.tmps w → N ≤ a.tmps.size → base ≤ s.σ.length → wpL P c (EvPost GL B0 w0 g w a e s') a w := by
      intro fi base blk c s e s' N h hne hok B0 w0 g a w hI hN hb
      rw [evC] at h
      unfold evF at h
      dsimp only at h
      -- one round, and what comes after
      have rounds : ∀ {base1 : Nat} {s0 : S} {K : S → Option (Ex × S)}, thenS K (evC P ⟨ty, GL⟩ H k fi base1 blk c s0) = some (e, s') → Inv GL B0 w0 g s0.env s0.σ a.tmps w → base1 ≤ s0.σ.length →
          (∀ s1 g1 (a1 : Act) w1, evC P ⟨ty, GL⟩ H k fi base1 blk c s0 = some (.normal, s1) → Inv GL B0 w0 g1 s1.env s1.σ a1.tmps w1 → Post g w g1 w1 → a1.tmps.size = a.tmps.size → a1.defers = a.defers → K s1 = some (e, s') → wpL P c (EvPost GL B0 w0 g w a e s') a1 w1) → wpL P c (EvPost GL B0 w0 g w a e s') a w := by
        intro base1 s0 K h hI0 hb0 hnext
        cases hE : evC P ⟨ty, GL⟩ H k fi base1 blk c s0 with
        | none => rw [hE] at h; cases h
        | some r =>
          obtain ⟨e1, s1⟩ := r
          rw [hE] at h
          have hne1 : ∀ v, e1 ≠ .pan v := fun v he => by subst he; injection h with h; injection h with h _; exact hne v h.symm
          refine wpL_round (wp_mono (ihE _ _ _ _ _ _ _ N hE hne1 hok B0 w0 g a w hI0 hN hb0) fun x a1 w1 hx => ?_)
          obtain ⟨hx1, g1, hI1, hP1, hz1, hd1⟩ := hx
          cases e1 with
          | normal =>
            have : x = .normal := hx1
            subst this
            exact hnext s1 g1 a1 w1 hE hI1 hP1 hz1 hd1 h
          | exit id =>
            injection h with h; injection h with h1 h2; subst h1; subst h2
            have : x = .exit id := hx1
            subst this
            exact ⟨rfl, g1, hI1, hP1, hz1, hd1⟩
          | ret =>
            injection h with h; injection h with h1 h2; subst h1; subst h2
            have : x = .ret := hx1
            subst this
            exact ⟨rfl, g1, hI1, hP1, hz1, hd1⟩
          | pan v => exact absurd rfl (hne1 v)
      have wpL_mono : ∀ {Q Q' : Exit → Act → World → Prop} {a : Act} {w : World}, wpL P c Q a w → (∀ x a w, Q x a w → Q' x a w) → wpL P c Q' a w := by
        intro Q Q' a w h hq b k cs
        obtain ⟨e, a', w', q, r⟩ := h b k cs
        exact ⟨e, a', w', hq _ _ _ q, r⟩
      split at h
      · rename_i live hl
        refine rounds h (hI.mask live) (Nat.le_refl _) (fun s1 g1 a1 w1 hE hI1 hP1 hz1 hd1 h2 => ?_)
        obtain ⟨s2, hs2, h3⟩ := Option.bind_eq_some_iff.1 h2
        obtain ⟨hlt, rfl⟩ := roundEnd_some hs2
        have hg1 : Grows s.σ.length s.σ s1.σ := hgr _ s.σ.length _ _ (s.mask (some live)) _ _ (by exact Nat.le_refl _) hE
        have hL : Low s.σ.length s1.σ := hg1.2 _ (Nat.le_refl _) (Nat.le_refl _) hI.low
        have hI2 := (hI1.mask live).trunc hg1.1 hlt hL
        have hP2 := hP1.trunc (n := s.σ.length) (by rw [hI.len]; exact Nat.le_refl _)
        refine wpL_mono (ihL _ _ _ _ _ _ _ N h3 hne hok B0 w0 _ a1 w1 hI2 (by rw [hz1]; exact hN) ?_) (fun x a' w' hx => hx.of hP2 hz1 hd1)
        show base ≤ (s1.σ.take s.σ.length).length
        have := hg1.1
        rw [List.length_take]
        have : s.σ.length ≤ s1.σ.length := hg1.1
        omega
      · refine rounds h hI hb (fun s1 g1 a1 w1 hE hI1 hP1 hz1 hd1 h2 => ?_)
        have hg1 := hgr _ _ _ _ _ _ _ hb hE
        exact wpL_mono (ihL _ _ _ _ _ _ _ N h2 hne hok B0 w0 g1 a1 w1 hI1 (by rw [hz1]; exact hN) (Nat.le_trans hb hg1.1)) (fun x a' w' hx => hx.of hP1 hz1 hd1)
    refine ⟨?_, loop, ?_⟩
    · intro fi base blk c s e s' N h hne hok B0 w0 g a w hI hN hb
      cases c with
      | loop c => exact wp_of_wpL (loop fi base blk c s e s' N h hne (by simpa [codeOk] using hok) B0 w0 g a w hI hN hb)
      | skip =>
        rw [evC] at h
        injection h with h; injection h with h1 h2; subst h1; subst h2
        exact wp_skip ⟨rfl, g, hI, Post.refl g w, rfl, rfl⟩
      | exit id =>
        rw [evC] at h
        injection h with h; injection h with h1 h2; subst h1; subst h2
        exact wp_exit ⟨rfl, g, hI, Post.refl g w, rfl, rfl⟩
      | ret =>
        rw [evC] at h
        injection h with h; injection h with h1 h2; subst h1; subst h2
        exact wp_ret ⟨rfl, g, hI, Post.refl g w, rfl, rfl⟩
      | region id ops d =>
        rw [evC] at h
        unfold evF at h
        dsimp only at h
        unfold codeOk at hok
        simp only [Bool.and_eq_true] at hok
        obtain ⟨hops, hdr⟩ := hok
        cases hst : stepOps ⟨⟨ty, GL⟩, H, callK P ⟨ty, GL⟩ H k, H fi, base⟩ ops.toList ops.toList s with
        | none => rw [hst] at h; cases h
        | some r =>
          rw [hst] at h
          cases r with
          | pan v s1 =>
            simp only [exOf] at h
            split at h
            · cases h
            · injection h with h; injection h with h _; exact absurd h.symm (hne v)
          | ok s1 =>
            injection h with h; injection h with h1 h2; subst h1; subst h2
            cases d with
            | false =>
              refine wp_region ?_
              have := ops_wp hT ihC (fun f args v σ' hp hc => callK_lt (k := k) f args v σ' hp hc) (fun id args σ => callK_yld k id args σ) ops (a0 := a) (g0 := g) (w00 := w) ops.toList 0 s a g w (by simp) (fun o ho => List.all_eq_true.1 hops o ho) hN hI (Post.refl g w) rfl rfl hst
              rw [Array.length_toList, ← List.range_eq_range'] at this
              exact this
            | true =>
              refine wp_region_draw fun t => ?_
              simp only [Bool.not_true, Bool.false_or] at hdr
              have hsch : Region.schedule (P.follows .mixedOrders) ops t = Region.linearise .any ops t := by
                simp only [Region.schedule, hF.1, Bool.true_or, if_true]
              rw [hsch]
              obtain ⟨l, s2, hl, hlo, hrun, he⟩ := sched_all (c := ⟨⟨ty, GL⟩, H, callK P ⟨ty, GL⟩ H k, H fi, base⟩) hdr hst t
              rw [hl]
              have hopl : ∀ (i : Nat) o, ops[i]? = some o → opOk N o = true := fun i o hi => List.all_eq_true.1 hops o (by
                obtain ⟨h1, h2⟩ := Array.getElem?_eq_some_iff.1 hi
                rw [← h2]; exact Array.getElem_mem_toList h1)
              exact ops_wpG hT ihC (fun f args v σ' hp hc => callK_lt (k := k) f args v σ' hp hc) (fun id args σ => callK_yld k id args σ) ops hopl (a0 := a) (g0 := g) (w00 := w.drew) (fun g' a' w' hI' hP' hz hd => ⟨rfl, g', hI'.eqv he, (Post.drew g w).trans hP', hz, hd⟩) l _ s a g w.drew hlo hN hI.drew (Post.refl g w.drew) rfl rfl hrun
      | seq c1 c2 =>
        rw [evC] at h
        unfold evF at h
        dsimp only at h
        unfold codeOk at hok
        simp only [Bool.and_eq_true] at hok
        cases hE : evC P ⟨ty, GL⟩ H k fi base blk c1 s with
        | none => rw [hE] at h; cases h
        | some r =>
          obtain ⟨e1, s1⟩ := r
          rw [hE] at h
          have hne1 : ∀ v, e1 ≠ .pan v := fun v he => by subst he; injection h with h; injection h with h _; exact hne v h.symm
          refine wp_seq (wp_mono (ihE _ _ _ _ _ _ _ N hE hne1 hok.1 B0 w0 g a w hI hN hb) fun x a1 w1 hx => ?_)
          obtain ⟨hx1, g1, hI1, hP1, hz1, hd1⟩ := hx
          cases e1 with
          | normal =>
            have : x = .normal := hx1
            subst this
            have hg1 := hgr _ _ _ _ _ _ _ hb hE
            exact wp_mono (ihE _ _ _ _ _ _ _ N h hne hok.2 B0 w0 g1 a1 w1 hI1 (by rw [hz1]; exact hN) (Nat.le_trans hb hg1.1)) (fun x a' w' hx => hx.of hP1 hz1 hd1)
          | exit id =>
            injection h with h; injection h with h1 h2; subst h1; subst h2
            have : x = .exit id := hx1
            subst this
            exact ⟨rfl, g1, hI1, hP1, hz1, hd1⟩
          | ret =>
            injection h with h; injection h with h1 h2; subst h1; subst h2
            have : x = .ret := hx1
            subst this
            exact ⟨rfl, g1, hI1, hP1, hz1, hd1⟩
          | pan v => exact absurd rfl (hne1 v)
      | cond x c1 c2 =>
        rw [evC] at h
        unfold evF at h
        dsimp only at h
        unfold codeOk at hok
        simp only [Bool.and_eq_true] at hok
        split at h
        · rename_i t hx
          have hev : a.eval x = .bool t := by
            rw [eval_evT]
            exact Inv.lit (s := s) hI hx
          refine wp_cond hev ?_
          cases t with
          | true => exact ihE _ _ _ _ _ _ _ N h hne hok.1 B0 w0 g a w hI hN hb
          | false => exact ihE _ _ _ _ _ _ _ N h hne hok.2 B0 w0 g a w hI hN hb
        · cases h
      | block id c =>
        rw [evC] at h
        unfold evF at h
        dsimp only at h
        unfold codeOk at hok
        cases hE : evC P ⟨ty, GL⟩ H k fi base id c s with
        | none => rw [hE] at h; cases h
        | some r =>
          obtain ⟨e1, s1⟩ := r
          rw [hE] at h
          have hne1 : ∀ v, e1 ≠ .pan v := fun v he => by subst he; injection h with h; injection h with h _; exact hne v h.symm
          have hmask : ∀ {g1 : G} {a1 : Act} {w1 : World} (l : Option (List Nat)), Inv GL B0 w0 g1 s1.env s1.σ a1.tmps w1 → Inv GL B0 w0 g1 (s1.mask l).env (s1.mask l).σ a1.tmps w1 := by
            intro g1 a1 w1 l hI1
            cases l with
            | none => exact hI1
            | some l => exact hI1.mask l
          refine wp_block (wp_mono (ihE _ _ _ _ _ _ _ N hE hne1 hok B0 w0 g a w hI hN hb) fun x a1 w1 hx => ?_)
          obtain ⟨hx1, g1, hI1, hP1, hz1, hd1⟩ := hx
          cases e1 with
          | normal =>
            injection h with h; injection h with h1 h2; subst h1; subst h2
            have : x = .normal := hx1
            subst this
            exact ⟨rfl, g1, hmask _ hI1, hP1, hz1, hd1⟩
          | exit i =>
            have : x = .exit i := hx1
            subst this
            unfold blockEx at h
            dsimp only at h
            simp only [Exit.inBlock]
            split at h
            · rename_i hi
              injection h with h; injection h with h1 h2; subst h1; subst h2
              rw [if_pos hi]
              exact ⟨rfl, g1, hmask _ hI1, hP1, hz1, hd1⟩
            · rename_i hi
              injection h with h; injection h with h1 h2; subst h1; subst h2
              rw [if_neg hi]
              exact ⟨rfl, g1, hI1, hP1, hz1, hd1⟩
          | ret =>
            injection h with h; injection h with h1 h2; subst h1; subst h2
            have : x = .ret := hx1
            subst this
            exact ⟨rfl, g1, hI1, hP1, hz1, hd1⟩
          | pan v => exact absurd rfl (hne1 v)
      | scope c =>
        rw [evC] at h
        unfold evF at h
        dsimp only at h
        unfold codeOk at hok
        refine wp_scope (fun l a w hq => ?_) (ihE _ _ _ _ _ _ _ N h hne hok B0 w0 g a w hI hN hb)
        have := hq.1
        cases e <;> simp [exq] at this
      | label l =>
        rw [evC] at h
        injection h with h; injection h with h1 h2; subst h1; subst h2
        exact wp_label ⟨rfl, g, hI, Post.refl g w, rfl, rfl⟩
      | _ =>
        rw [evC] at h
        cases h
    · intro f args σ v σ' h B0 w0 g Args w hI hl
      obtain ⟨k', fn, c, e, s, hk, hf, hc, hok, hev, he, hfin⟩ := callK_ret h
      obtain ⟨hco, hnm⟩ := hF.2 f fn c hf hc hok
      refine ⟨⟨fn, hf, by rw [hc]; rfl, hnm⟩, ?_⟩
      have hk' : k = k' + 1 := by omega
      subst hk'
      obtain ⟨ihE', _, _⟩ := sim hT hF k'
      have hgr' := (ev_grows (P := P) (T := ⟨ty, GL⟩) (H := H) k').1
      have hI0 : Inv GL B0 w0 g (envOf 0 args) σ (Args ++ Array.replicate (fn.ntmps - Args.size) Go.undef) w := by
        refine ⟨hI.below, hI.base, hI.fz, hI.tlt, hI.own, fun t => ?_, hI.objs, hI.len, hI.glob, hI.mlt⟩
        by_cases ht : t < Args.size
        · rw [append_get_lt ht]; exact hI.env t
        · rw [get_envOf, if_pos (Nat.zero_le _), List.getElem?_eq_none (by omega)]
          simp only [Option.getD_none]
          unfold RelS RelA; trivial
      refine calls_of_wp hf hc ?_
      have hne : ∀ v, e ≠ .pan v := fun v h => by subst h; rcases he with h | h <;> cases h
      refine wp_mono (ihE' _ _ _ _ _ _ _ fn.ntmps hev hne hco B0 w0 g ⟨Args ++ Array.replicate (fn.ntmps - Args.size) Go.undef, []⟩ w hI0 (by simp; omega) (Nat.le_refl _)) fun x a' w' hx => ?_
      obtain ⟨hx1, g1, hI1, hP1, hz1, hd1⟩ := hx
      have hgrow := hgr' _ σ.length _ _ _ _ _ (by exact Nat.le_refl _) hev
      obtain ⟨u, v', hres, hret, ho, hσ⟩ := finish_some hfin
      injection ho with ho; subst ho
      obtain ⟨V, t0, hrun, hR⟩ := results_rel (P := P) hT hI1 hres
      have hn : σ.length ≤ finN (H f) σ.length s ∧ finN (H f) σ.length s ≤ s.σ.length ∧ Low (finN (H f) σ.length s) s.σ := by
        unfold finN
        split
        · exact ⟨hgrow.1, Nat.le_refl _, hI1.low⟩
        · exact ⟨Nat.le_refl _, hgrow.1, hgrow.2 _ (Nat.le_refl _) (Nat.le_refl _) hI.low⟩
      obtain ⟨g2, hI2, hP2⟩ := hI1.ret hn.2.1 hn.2.2 hR hret
      have hfinal : a'.defers = [] ∧ ∃ v1, (results fn a'.tmps).run P w' = .ok v1 w' ∧ ∃ V g', Ending.returned v1 = Ending.returned V ∧ Inv GL B0 w0 g' [(0, v)] σ' #[V] w' ∧ Post g w g' w' :=
        ⟨hd1, V, hrun, V, g2, rfl, by rw [hσ]; exact hI2, hP2 g w hP1 (by rw [hI.len]; exact hn.1)⟩
      rcases he with rfl | rfl
      · have : x = .normal := hx1
        subst this
        exact hfinal
      · have : x = .ret := hx1
        subst this
        exact hfinal

theorem sim_call (hT : TabOk P ⟨ty, GL⟩) (hF : FnsOk P H) : CallSim P GL (call P ⟨ty, GL⟩ H) := by
  intro f args σ v σ' h
  obtain ⟨k, hk⟩ := call_some.1 h
  exact (sim hT hF k).2.2 f args σ v σ' hk
end
end Go.AM
