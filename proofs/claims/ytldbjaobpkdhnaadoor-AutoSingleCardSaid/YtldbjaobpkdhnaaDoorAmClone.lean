/- A part of the abstract machine and its simulation. -/
import Derived.Test.YtldbjaobpkdhnaaDoorAmSim
set_option linter.unusedVariables false
namespace Go.AM
open Go
set_option maxHeartbeats 4000000
variable {P : Program} {ty : List TI} {GL : List (Nat × List PV)} {H : FuncId → FH} {B0 : Nat} {w0 : World} {g : G} {w : World}

/-- a region that ends in a comparison with nil: either answer -/
theorem nil_region (hT : TabOk P ⟨ty, GL⟩) {C : CallF} (hC : CallSim P GL C) (hG0 : ∀ f args v σ', (H f).pu = true → C (.fn f) args [] = some (.ret v, σ') → ltV 0 v = true) {h : FH} {base N id : Nat} {ro : Option Nat} {o1 o2 : Oper} {s s1 : S} {a : Act}
    (hg1 : o1.guard = none) (hg2 : o2.guard = none) (hk1 : opOk N o1 = true) (hk2 : opOk N o2 = true) (hst : stepOp ⟨⟨ty, GL⟩, H, C, h, base⟩ o1 s = some (.ok s1)) {t t' x d : Nat}
    (ho2 : o2.op = .binOp .eql t (.tmp x) (.const (.slice none 0 0)) t') (hd2 : o2.dst = some d) {nl : Option Bool} {sz : Nat} {rows : List (List PV)} (hx : get s1.env x = .p (.sl nl sz rows)) (hty : nilTy ⟨ty, GL⟩ t (.const (.slice none 0 0)) = true)
    (hI : Inv GL B0 w0 g s.env s.σ a.tmps w) (hN : N ≤ a.tmps.size) :
    (Code.region id #[o1, o2] false).wpIn (FW ro) 0 P (fun xt a' w' => ∃ b : Bool, EvPost GL B0 w0 g w a .normal (s1.put (some d) (.p (.lit (.bool b)))) xt a' w') a w := by
  have hd : ∀ {o : Oper}, opOk N o = true → ∀ d, o.dst = some d → d < a.tmps.size := fun {o} hok d e => by
    unfold opOk at hok
    simp only [e, Bool.and_eq_true, decide_eq_true_eq] at hok
    exact Nat.lt_of_lt_of_le hok.1.1 hN
  refine wpIn_region ?_
  show wpOpsIn (FW ro) 0 P #[o1, o2] _ [0, 1] a w
  have hw : ∀ {o : Oper} (tm : Array Value), o.guard = none → Region.wanted o (yielded #[o1, o2] tm) = true := fun tm hg => by unfold Region.wanted; rw [hg]
  simp only [wpOpsIn]
  have e0 : (#[o1, o2] : Array Oper)[0]? = some o1 := rfl
  have e1 : (#[o1, o2] : Array Oper)[1]? = some o2 := rfl
  rw [e0]
  dsimp only
  rw [if_pos (hw _ hg1)]
  refine op_wp hT hC hG0 hN hk1 hI hst fun a1 w1 g1 hI1 hP1 hz1 hd1 => ?_
  rw [e1]
  dsimp only
  rw [if_pos (hw _ hg2)]
  have hr := hI1.env x
  rw [hx] at hr
  have h2 : nilKind (evT a1.tmps (.tmp x)) = 1 := by
    obtain ⟨a', cap, e, _⟩ := hr
    show nilKind (a1.tmps.getD x Go.undef) = 1
    rw [e]; rfl
  have hs := sim_nilCmpV (s := s1) (v := .p (.lit (.bool (isNilV (evT a1.tmps (.tmp x)))))) hT ho2 hI1 (fun d e => by rw [hz1]; exact hd hk2 d e) rfl hty rfl h2 rfl rfl
  refine SimR.wp (s' := s1.put o2.dst (.p (.lit (.bool (isNilV (evT a1.tmps (.tmp x))))))) (fun c e => by rw [ho2] at e; cases e) (fun a2 w2 g2 hI2 hP2 hz2 hd3 => ?_) hs
  rw [hd2] at hI2
  exact ⟨_, EvPost.mk rfl hI2 (hP1.trans hP2) (hz2.trans hz1) (hd3.trans hd1)⟩

/-- a function that compares its first argument with nil, and returns the same in both cases -/
theorem prim_nil (hT : TabOk P ⟨ty, GL⟩) (hF : FnsOk P H) (hPr : PrimOk P GL H) {k f id : Nat} {fn : Func} {c0 c2 c3 : Code} {o1 o2 : Oper} (hf : P.funcs[f]? = some fn) (hb : fn.body = some (.seq c0 (.seq (.seq (.region id #[o1, o2] false) c2) c3))) (hok : (H f).ok = true) (hpr : (H f).pr = none)
    {σ : List AObj} {args : List AV} {v : AV} {s0 s1 : S} (h0 : evC P ⟨ty, GL⟩ H k f σ.length 0 c0 { env := envOf 0 args, σ := σ } = some (.normal, s0)) (hg1 : o1.guard = none) (hg2 : o2.guard = none)
    (h1 : stepOp ⟨⟨ty, GL⟩, H, callK P ⟨ty, GL⟩ H k, H f, σ.length⟩ o1 s0 = some (.ok s1)) {t t' x d : Nat} (ho2 : o2.op = .binOp .eql t (.tmp x) (.const (.slice none 0 0)) t') (hd2 : o2.dst = some d) {nl : Option Bool} {sz : Nat} {rows : List (List PV)} (hx : get s1.env x = .p (.sl nl sz rows)) (hty : nilTy ⟨ty, GL⟩ t (.const (.slice none 0 0)) = true)
    (h2 : ∀ b : Bool, ∃ e s2, evC P ⟨ty, GL⟩ H k f σ.length 0 c2 (s1.put (some d) (.p (.lit (.bool b)))) = some (e, s2) ∧ ((e = .ret ∧ finish ⟨ty, GL⟩ (H f) σ.length fn.results.toList s2 = some (.ret v, σ)) ∨
      (e = .normal ∧ ∃ s3, evC P ⟨ty, GL⟩ H k f σ.length 0 c3 s2 = some (.ret, s3) ∧ finish ⟨ty, GL⟩ (H f) σ.length fn.results.toList s3 = some (.ret v, σ))))
    {Args : Array Value} (hI : Inv GL B0 w0 g (envOf 0 args) σ Args w) (hl : args.length = Args.size) :
    (∃ fn, P.funcs[f]? = some fn ∧ fn.body.isSome = true ∧ (fn.name == "runtime.NumGoroutine") = false) ∧
    Calls P f Args w fun e w' => ∃ V g', e = .returned V ∧ Inv GL B0 w0 g' [(0, v)] σ #[V] w' ∧ Post g w g' w' := by
  obtain ⟨hco, hnm⟩ := hF.2 f fn _ hf hb hok
  refine ⟨⟨fn, hf, by rw [hb]; rfl, hnm⟩, ?_⟩
  obtain ⟨ihE, _, ihC⟩ := sim hT hF hPr k
  have hgr := (ev_grows (P := P) (T := ⟨ty, GL⟩) (H := H) k).1
  have hI0 : Inv GL B0 w0 g (envOf 0 args) σ (Args ++ Array.replicate (fn.ntmps - Args.size) Go.undef) w := by
    refine ⟨hI.below, hI.base, hI.fz, hI.tlt, hI.own, fun t => ?_, hI.objs, hI.len, hI.glob, hI.mlt⟩
    by_cases ht : t < Args.size
    · rw [append_get_lt ht]; exact hI.env t
    · rw [get_envOf, if_pos (Nat.zero_le _), List.getElem?_eq_none (by omega)]
      simp only [Option.getD_none]
      unfold RelS RelA; trivial
  refine (callsIn_FW (ro := none) (n := 0)).1 (callsIn_of_wp_marks hf hb trivial ?_)
  unfold codeOk at hco
  simp only [Bool.and_eq_true] at hco
  obtain ⟨hc0, hco⟩ := hco
  unfold codeOk at hco
  simp only [Bool.and_eq_true] at hco
  obtain ⟨hco1, hc3⟩ := hco
  unfold codeOk at hco1
  simp only [Bool.and_eq_true] at hco1
  obtain ⟨hcr, hc2⟩ := hco1
  unfold codeOk at hcr
  simp only [Bool.and_eq_true] at hcr
  have hops := hcr.1
  have hk1 : opOk fn.ntmps o1 = true := List.all_eq_true.1 hops o1 (by simp)
  have hk2 : opOk fn.ntmps o2 = true := List.all_eq_true.1 hops o2 (by simp)
  have hN : fn.ntmps ≤ (Args ++ Array.replicate (fn.ntmps - Args.size) Go.undef).size := by simp; omega
  generalize hA : (⟨Args ++ Array.replicate (fn.ntmps - Args.size) Go.undef, []⟩ : Act) = A at *
  have hI0' : Inv GL B0 w0 g (envOf 0 args) σ A.tmps w := by rw [← hA]; exact hI0
  have hN' : fn.ntmps ≤ A.tmps.size := by rw [← hA]; exact hN
  have hro : RoOk none w := fun l hl => by cases hl
  have main : ∀ (s2 : S) (x : Exit) (a' : Act) (w' : World), finish ⟨ty, GL⟩ (H f) σ.length fn.results.toList s2 = some (.ret v, σ) → Grows σ.length σ s2.σ → EvPost GL B0 w0 g w A .ret s2 x a' w' →
      x = .ret ∧ LeavesInM (FW none) 0 P fn a'.tmps (fun e w' => ∃ V g', e = .returned V ∧ Inv GL B0 w0 g' [(0, v)] σ #[V] w' ∧ Post g w g' w') a'.defers .returning w' := by
    intro s2 x a' w' hfin hgrow hx
    obtain ⟨hx1, g1, Ds1, hI1, hP1, hz1, hd1, hm1⟩ := hx
    have hx1 : x = .ret := hx1
    refine ⟨hx1, ?_⟩
    obtain ⟨u, v', hres, hret, ho, hσ⟩ := finish_some hfin
    injection ho with ho; subst ho
    have hn : σ.length ≤ finN (H f) σ.length s2 ∧ finN (H f) σ.length s2 ≤ s2.σ.length ∧ Low (finN (H f) σ.length s2) s2.σ := by
      unfold finN
      split
      · exact ⟨hgrow.1, Nat.le_refl _, hI1.low⟩
      · exact ⟨Nat.le_refl _, hgrow.1, hgrow.2 _ (Nat.le_refl _) (Nat.le_refl _) hI.low⟩
    have hd2 : a'.defers = Ds1.map markD := by rw [hd1, ← hA]; simp
    rw [hd2]
    refine leaves_marks Ds1 ⟨hm1.1, fun D hD => ⟨Nat.zero_le _, (hm1.2 D hD).2⟩⟩ hI1.base (fun D hD => Nat.le_trans hI.base (hm1.2 D hD).1) hI1 (fun w2 hI2 hk => ?_)
    obtain ⟨V, t0, hrun, hR⟩ := results_rel (P := P) hT hI2 hres
    obtain ⟨g2, hI3, hP3⟩ := hI2.ret hn.2.1 hn.2.2 (roV_rel hR) hret
    exact ⟨V, hrun, V, g2, rfl, by rw [hσ]; exact hI3, hP3 g w (hk g w hP1 (fun D hD => (hm1.2 D hD).1)) (by rw [hI.len]; exact hn.1)⟩
  have g0 : Grows σ.length σ s0.σ := hgr _ _ _ _ _ _ _ (by exact Nat.le_refl _) h0
  have hs1 : ∀ (s : S) (b : Bool), (s.put (some d) (.p (.lit (.bool b)))).σ = s.σ := fun _ _ => rfl
  refine wpIn_seq (wpIn_mono (ihE _ _ _ _ _ _ _ fn.ntmps h0 (fun v h => by cases h) hc0 none B0 w0 g A w hro hI0' hN' (Nat.le_refl _)) fun x a1 w1 hx => ?_)
  obtain ⟨hx1, g1, Ds1, hI1, hP1, hz1, hd1, hm1⟩ := hx
  have : x = .normal := hx1
  subst this
  refine wpIn_seq (wpIn_seq (wpIn_mono (nil_region hT ihC (fun f args v σ' hp hc => callK_lt (k := k) f args v σ' hp hc) hg1 hg2 hk1 hk2 h1 ho2 hd2 hx hty hI1 (by rw [hz1]; exact hN')) fun x a2 w2 hx => ?_))
  obtain ⟨b, hx1, g2, Ds2, hI2, hP2, hz2, hd2', hm2⟩ := hx
  have : x = .normal := hx1
  subst this
  obtain ⟨e, s2, hE2, hcase⟩ := h2 b
  have hgc := (ev_grows (P := P) (T := ⟨ty, GL⟩) (H := H) k).2
  have g1' : Grows σ.length σ s1.σ := g0.trans (stepOp_grows (c := ⟨⟨ty, GL⟩, H, callK P ⟨ty, GL⟩ H k, H f, σ.length⟩) hgc g0.1 h1)
  have hb1 : σ.length ≤ (s1.put (some d) (.p (.lit (.bool b)))).σ.length := g1'.1
  have g2' : Grows σ.length σ s2.σ := g1'.trans (show Grows σ.length s1.σ s2.σ from hgr _ _ _ _ (s1.put (some d) (.p (.lit (.bool b)))) _ _ hb1 hE2)
  have hnz2 : fn.ntmps ≤ a2.tmps.size := by rw [hz2, hz1]; exact hN'
  have hne : ∀ v, e ≠ .pan v := fun v h => by subst h; rcases hcase with h | h <;> cases h.1
  refine wpIn_mono (ihE _ _ _ _ _ _ _ fn.ntmps hE2 hne hc2 none B0 w0 g2 a2 w2 (fun l hl => by cases hl) hI2 hnz2 hb1) fun x a3 w3 hx => ?_
  have hx := (hx.of hP2 hz2 hd2' hm2).of hP1 hz1 hd1 hm1
  rcases hcase with ⟨rfl, hfin⟩ | ⟨rfl, s3, hE3, hfin⟩
  · obtain ⟨rfl, hL⟩ := main s2 x a3 w3 hfin g2' hx
    exact hL
  · obtain ⟨hx1, g3, Ds3, hI3, hP3, hz3, hd3, hm3⟩ := hx
    have : x = .normal := hx1
    subst this
    have g3' : Grows σ.length σ s3.σ := g2'.trans (hgr _ _ _ _ _ _ _ g2'.1 hE3)
    refine wpIn_mono (ihE _ _ _ _ _ _ _ fn.ntmps hE3 (fun v h => by cases h) hc3 none B0 w0 g3 a3 w3 (fun l hl => by cases hl) hI3 (by rw [hz3]; exact hN') g2'.1) fun x a4 w4 hx => ?_
    have hx := hx.of hP3 hz3 hd3 hm3
    obtain ⟨rfl, hL⟩ := main s3 x a4 w4 hfin g3' hx
    exact hL

/-- slices.Clone: a copy in new places -/
def cloneP (sz bytes : Nat) : List AV → Option AV
  | [.p (.sl nl sz' rows)] => if sz' = sz ∧ boundOk rows.length bytes = true ∧ (nl = some true → rows = []) then some (.own sz rows) else none
  | _ => none
theorem cloneP_some {sz bytes : Nat} {args : List AV} {v : AV} (h : cloneP sz bytes args = some v) : ∃ nl rows, args = [.p (.sl nl sz rows)] ∧ v = .own sz rows ∧ boundOk rows.length bytes = true ∧ (nl = some true → rows = []) := by
  unfold cloneP at h
  split at h
  · rename_i nl sz' rows
    split at h
    · rename_i hc
      obtain ⟨rfl, h2, h3⟩ := hc
      injection h with h
      exact ⟨nl, rows, rfl, h.symm, h2, h3⟩
    · cases h
  · cases h
end Go.AM
