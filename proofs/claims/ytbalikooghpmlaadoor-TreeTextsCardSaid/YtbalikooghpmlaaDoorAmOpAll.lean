/- A part of the abstract machine and its simulation. -/
import Derived.Test.YtbalikooghpmlaaDoorAmPan
set_option linter.unusedVariables false
set_option linter.unusedSimpArgs false
namespace Go.AM
open Go Go.RowKit
theorem eval_evT (a : Act) : a.eval = evT a.tmps := by
 funext x
 cases x <;> rfl
theorem act_put (a : Act) (d : Option Tmp) (V : Value) : (a.put d V).tmps = putT a.tmps d V ∧ (a.put d V).defers = a.defers := by cases d <;> exact ⟨rfl, rfl⟩
section
variable {GL : List (Nat × List PV)} {B0 : Nat} {w0 : World} {g : G} {s : S} {w : World} {ty : List TI} {P : Program} {H : FuncId → FH} {C : CallF} {h : FH} {base : Nat} {ro : Option Nat}
def Next' (GL : List (Nat × List PV)) (B0 : Nat) (w0 : World) (g : G) (w : World) (a : Act) (s' : S) (next : Act → World → Prop) : Prop :=
 ∀ a' w' g', Inv GL B0 w0 g' s'.env s'.σ a'.tmps w' → Post g w g' w' → a'.tmps.size = a.tmps.size → a'.defers = a.defers → next a' w'
theorem wpIn_intro {o : Oper} {a : Act} {next : Act → World → Prop} {Q : Exit → Act → World → Prop} (hnd : ∀ c, o.op ≠ .defer c) (h : o.uponIn (FW ro) 0 P a next Q ((execOp (evT a.tmps) o).run P w)) : o.wpIn (FW ro) 0 P a w next Q := by
 refine ⟨fun _ _ => trivial, ?_⟩
 rw [Oper.semAt_eq _ _ _ hnd, eval_evT]
 exact h
theorem SimR.wp {a : Act} {s' : S} {o : Oper} {next : Act → World → Prop} {Q : Exit → Act → World → Prop} (hnd : ∀ c, o.op ≠ .defer c) (hn : Next' GL B0 w0 g w a s' next) (hs : SimR GL B0 w0 g w s'.env s'.σ a.tmps o.dst ((execOp (evT a.tmps) o).run P w)) : o.wpIn (FW ro) 0 P a w next Q := by
 obtain ⟨V, g', w', hr, hI, hP⟩ := hs
 refine wpIn_intro hnd ?_
 obtain ⟨e1, e2⟩ := act_put a o.dst V
 have hsz : (a.put o.dst V).tmps.size = a.tmps.size := by rw [e1]; exact putT_size _ _ _
 rcases hr with hr | ⟨hr, rfl⟩
 ·rw [hr]
  exact hn _ _ g' (by rw [e1]; exact hI) hP hsz e2
 ·rw [hr]
  exact hn _ _ g' (by rw [e1]; exact hI) hP hsz e2
theorem argsV_len (T : Tab) (h : FH) : ∀ (xs : List Operand) (env : Env), (argsV T h env xs).length = xs.length
 | [], _ => rfl
 | x :: xs, env => by simp [argsV, argsV_len T h xs]
theorem get_stripsM {h : FH} {N t : Nat} (ht : N ≤ t) : ∀ (xs : List Operand) (env : Env), (∀ x ∈ xs, ∀ t : Nat, x = .tmp t → t < N) → get (stripsM h env xs) t = get env t
 | [], _, _ => rfl
 | x :: xs, env, hx => by
  unfold stripsM
  rw [get_stripsM ht xs _ (fun y hy => hx y (by simp [hy]))]
  exact get_stripM (fun e => by have := hx x (by simp) t e; omega)
theorem pureArgs_lt : ∀ {vs : List AV}, pureArgs vs = true → ∀ v ∈ vs, ltV 0 v = true
 | [], _, v, hv => by simp at hv
 | x :: vs, hp, v, hv => by
  unfold pureArgs at hp
  simp only [Bool.and_eq_true] at hp
  rcases List.mem_cons.1 hv with rfl | hv
  ·cases v <;> first | rfl | (simp [pureArg] at hp; done)
  ·exact pureArgs_lt hp.2 v hv
theorem call_wp (hC : CallSim P GL C) (hG0 : ∀ f args v σ', (H f).pu = true → C (.fn f) args [] = some (.ret v, σ') → ltV 0 v = true) {o : Oper} {cl : Call} {f : Operand} (ho : o.op = .call cl) (hcal : cl.callee = .value f) {a : Act} {N : Nat} (hN : N ≤ a.tmps.size) (hok : opOk N o = true)
 (hI : Inv GL B0 w0 g s.env s.σ a.tmps w) {s' : S} (hs : stepOp0 ⟨⟨ty, GL⟩, H, C, h, base⟩ o s = some (.ok s')) {next : Act → World → Prop} {Q : Exit → Act → World → Prop} (hn : Next' GL B0 w0 g w a s' next) : o.wpIn (FW ro) 0 P a w next Q := by
 unfold stepOp0 at hs
 rw [ho] at hs
 dsimp only at hs
 rw [hcal] at hs
 dsimp only at hs
 unfold opOk at hok
 rw [ho] at hok
 simp only [hcal, Bool.and_eq_true] at hok
 obtain ⟨⟨hd0, _⟩, hxs0, hdst0⟩ := hok
 obtain ⟨d, hdst⟩ := Option.isSome_iff_exists.1 hdst0
 rw [hdst] at hd0
 have hdl : d < a.tmps.size := Nat.lt_of_lt_of_le (by simpa using hd0) hN
 have hxs : ∀ x ∈ cl.args.toList, ∀ t : Nat, x = .tmp t → t < N := fun x hx t e => by
  have := List.all_eq_true.1 hxs0 x hx
  subst e
  simpa [xOk] using this
 have hxs' : ∀ x ∈ cl.args.toList, ∀ t : Nat, x = .tmp t → t < a.tmps.size := fun x hx t e => Nat.lt_of_lt_of_le (hxs x hx t e) hN
 obtain ⟨g1, env1, hI1, hP1, k1, k2, _⟩ := Inv.args (ty := ty) (h := h) (N := a.tmps.size) (tm0 := a.tmps) cl.args.toList (env := s.env) (env' := s.env) hxs' (Nat.le_refl _) (fun _ _ => rfl) (fun _ _ => rfl) hI
 have hal0 := argsV_len ⟨ty, GL⟩ h cl.args.toList s.env
 obtain ⟨env1, hI1, kk1, _, k2⟩ := hI1.nilArgs (T := ⟨ty, GL⟩) a.tmps.size (argsV ⟨ty, GL⟩ h s.env cl.args.toList) (opOf H (rd ⟨ty, GL⟩ s.env f)) cl.argTypes.toList cl.args.toList (fun i hi => k2 i (by rw [hal0] at hi; exact hi))
 have k1 : ∀ t, t < a.tmps.size → get env1 t = get (stripsM h s.env cl.args.toList) t := fun t ht => (kk1 t ht).trans (k1 t ht)
 have k2 : ∀ i, i < cl.args.toList.length → get env1 (a.tmps.size + i) = ((nilTs ⟨ty, GL⟩ (opOf H (rd ⟨ty, GL⟩ s.env f)) 0 cl.argTypes.toList cl.args.toList (argsV ⟨ty, GL⟩ h s.env cl.args.toList))[i]?).getD .undef := fun i hi => k2 i (by rw [hal0]; exact hi)
 have hargs : (cl.args.toList.map (evT a.tmps)).toArray = cl.args.map (evT a.tmps) := by
  apply Array.ext'; simp
 have hge : ∀ t, a.tmps.size ≤ t → RelS g t (get (stripsM h s.env cl.args.toList) t) Go.undef := fun t ht => by
  rw [get_stripsM ht _ _ hxs']
  have := hI.env t
  rwa [show a.tmps.getD t Go.undef = Go.undef by rw [Array.getD_eq_getD_getElem?, Array.getElem?_eq_none (by omega)]; rfl] at this
 have hal : (nilTs ⟨ty, GL⟩ (opOf H (rd ⟨ty, GL⟩ s.env f)) 0 cl.argTypes.toList cl.args.toList (argsV ⟨ty, GL⟩ h s.env cl.args.toList)).length = cl.args.toList.length := by rw [nilTs_len, hal0]
 have back : ∀ (pu : Bool) (Args : Array Value) (args : List AV) (env2 : Env) (v : AV) (σ2 : List AObj) (V : Value) (g2 : G) (w' : World), Inv GL B0 w0 g1 env2 s.σ (a.tmps ++ Args) w →
  (∀ t, t < a.tmps.size → get env2 t = get (stripsM h s.env cl.args.toList) t) → (pu = true → ltV 0 v = true) →
  s' = ({ s with env := stripsM h s.env cl.args.toList, σ := (if pu = true then s.σ else σ2) } : S).put o.dst v → Inv GL B0 w0 g2 [(0, v)] σ2 #[V] w' → Post (g1.callee a.tmps.size pu) w g2 w' → next (a.put o.dst V) w' := by
  intro pu Args args env2 v σ2 V g2 w' hI2 ha1 hpv hs' hI3 hP3
  obtain ⟨g3, hI4, hP4⟩ := hI2.join pu (env0 := stripsM h s.env cl.args.toList) (g0 := g) (fun t ht => (ha1 t ht).symm) hge hP3 hI3 hpv hdl
  obtain ⟨e1, e2⟩ := act_put a o.dst V
  refine hn _ _ g3 ?_ (hP1.trans hP4) (by rw [e1]; exact putT_size _ _ _) e2
  rw [e1, hdst, hs']
  rw [hdst]
  exact hI4
 have hnd : ∀ c, o.op ≠ .defer c := fun c e => by rw [ho] at e; cases e
 have go : ∀ (pu : Bool) (fid : FuncId) (Args : Array Value) (args : List AV) (env2 : Env) (v : AV) (σ2 : List AObj), C (.fn fid) args (if pu = true then [] else s.σ) = some (.ret v, σ2) → Inv GL B0 w0 g1 env2 s.σ (a.tmps ++ Args) w → args.length = Args.size →
  (∀ i, i < args.length → get env2 (a.tmps.size + i) = (args[i]?).getD .undef) → (∀ t, t < a.tmps.size → get env2 t = get (stripsM h s.env cl.args.toList) t) → (pu = true → ∀ x ∈ args, ltV 0 x = true) → (pu = true → ltV 0 v = true) →
  ((∃ fn, P.funcs[fid]? = some fn ∧ fn.body.isSome = true ∧ (fn.name == "runtime.NumGoroutine") = false) → (execOp (evT a.tmps) o).run P w = .ok (.enter fid Args) w) →
  s' = ({ s with env := stripsM h s.env cl.args.toList, σ := (if pu = true then s.σ else σ2) } : S).put o.dst v → o.wpIn (FW ro) 0 P a w next Q := by
  intro pu fid Args args env2 v σ2 hc hI2 hl ha0 ha1 hpa hpv hr hs'
  obtain ⟨hfn, hcalls⟩ := hC.fn _ _ _ _ _ hc B0 w0 _ Args w (hI2.split pu hl ha0 hpa) hl
  refine wpIn_intro hnd ?_
  rw [hr hfn, Oper.uponIn_enter]
  refine ⟨fun h => (by cases h), CallsIn.mono (callsIn_FW.2 hcalls) fun e w' he => ?_⟩
  obtain ⟨V, g2, rfl, hI3, hP3⟩ := he
  exact back pu Args args env2 v σ2 V g2 w' hI2 ha1 hpv hs' hI3 hP3
 have hres : ∀ {cap : Array Value} {fid : FuncId}, evT a.tmps f = .func (.func fid) #[] cap → (∃ fn, P.funcs[fid]? = some fn ∧ fn.body.isSome = true ∧ (fn.name == "runtime.NumGoroutine") = false) →
  (execOp (evT a.tmps) o).run P w = .ok (.enter fid (cl.args.map (evT a.tmps) ++ cap)) w := by
  rintro cap fid e ⟨fn, hf, hb, hnm⟩
  unfold execOp; rw [ho]
  have hb' : fn.body ≠ none := fun e => by rw [e] at hb; cases hb
  have hnm' : fn.name ≠ "runtime.NumGoroutine" := by simpa using hnm
  simp [resolve, hcal, Deferred.ofValue, e, invoke, callFunc, hf, hnm', hb']
 have hfr := hI.rd (ty := ty) f
 unfold callV at hs
 have eok : ∀ {σ : List AObj} {o1 : Out} {s0 : S}, endCall s0 o.dst σ o1 = .ok s' → ∃ v, o1 = .ret v ∧ s' = ({ s0 with σ := σ } : S).put o.dst v := by
  intro σ o1 s0 h
  cases o1 with
  | ret v => injection h with h; exact ⟨v, rfl, h.symm⟩
  | pan v => cases h
 split at hs
 ·rename_i fid hv
  rw [hv] at hfr
  have hp := hfr.pure
  unfold RelP at hp
  split at hs
  ·rename_i hpu0
   split at hs
   ·rename_i hpa
    split at hs
    ·rename_i o1 σ1 hc
     injection hs with hs
     obtain ⟨v, rfl, hs'⟩ := eok hs
     refine go true fid (cl.args.map (evT a.tmps)) _ env1 v σ1 (by simpa using hc) (by rw [← hargs]; exact hI1) (by rw [hal]; simp) (fun i hi => k2 i (by rw [hal] at hi; exact hi)) k1 (fun _ => pureArgs_lt hpa) (fun _ => hG0 _ _ _ _ hpu0 hc) (fun hfn => ?_) hs'
     have := hres hp hfn
     simpa using this
    ·cases hs
   ·cases hs
  split at hs
  ·obtain ⟨o1, q6, q7, hq⟩ := rmRun_ok hs
   obtain ⟨v, rfl, hs'⟩ := eok q7.symm
   rcases hq with ⟨ia, args', ob, _, q2, q3, q4, q5⟩ | ⟨args', σ1, _, q2, q3, q5⟩
   case inr =>
    have hl2 : (nilTs ⟨ty, GL⟩ (opOf H (rd ⟨ty, GL⟩ s.env f)) 0 cl.argTypes.toList cl.args.toList (argsV ⟨ty, GL⟩ h s.env cl.args.toList)).length = (cl.args.map (evT a.tmps)).size := by rw [hal]; simp
    have hIm : Inv GL B0 w0 g1 env1 s.σ (a.tmps ++ cl.args.map (evT a.tmps)) w := by rw [← hargs]; exact hI1
    obtain ⟨env2, hI2, e1, e2⟩ := hIm.rmEnv hl2 (fun i hi => k2 i (by rw [hal] at hi; exact hi)) q2 q3
    refine go true fid (cl.args.map (evT a.tmps)) args' env2 v σ1 (by simpa using q5) hI2 (by rw [(rmArgs_get q2).1]; exact hl2) e2 (fun t ht => (e1 t ht).trans (k1 t ht)) (fun _ => pureArgs_lt q3) (fun _ => q6) (fun hfn => ?_) hs'
    have := hres hp hfn
    simpa using this
   obtain ⟨e, he, _⟩ : ∃ e, g1.μ[ia]? = some e ∧ True := by
    have ho := hI1.objs ia _ q3
    cases ob with
    | arr g sz rows => obtain ⟨e, he, _⟩ := ho; exact ⟨e, he, trivial⟩
    | cells cs => obtain ⟨e, he, _⟩ := ho; exact ⟨e, he, trivial⟩
    | _ => simp [rmOb] at q4
   have hIm : Inv GL B0 w0 g1 env1 s.σ (a.tmps ++ cl.args.map (evT a.tmps)) w := by rw [← hargs]; exact hI1
   have hl2 : (nilTs ⟨ty, GL⟩ (opOf H (rd ⟨ty, GL⟩ s.env f)) 0 cl.argTypes.toList cl.args.toList (argsV ⟨ty, GL⟩ h s.env cl.args.toList)).length = (cl.args.map (evT a.tmps)).size := by rw [hal]; simp
   have hsp := hIm.splitM hl2 (fun i hi => k2 i (by rw [hal] at hi; exact hi)) q2 q3 q4 he
   obtain ⟨hfn, hcalls⟩ := hC.fn _ _ _ _ _ q5 B0 w0 _ _ w hsp (by rw [(rmArgs_get q2).1]; exact hl2)
   refine wpIn_intro hnd ?_
   have hrun := hres hp hfn
   simp only [Array.append_empty] at hrun
   rw [hrun, Oper.uponIn_enter]
   refine ⟨fun h => (by cases h), CallsIn.mono (callsIn_FW.2 hcalls) fun e1 w' he1 => ?_⟩
   obtain ⟨V, g2, rfl, hI3, hP3⟩ := he1
   obtain ⟨g3, hI4, hP4⟩ := hIm.joinM (env0 := stripsM h s.env cl.args.toList) (g0 := g) (fun t ht => (k1 t ht).symm) hge q3 q4 he hP3 hI3 q6 hdl
   obtain ⟨e1, e2⟩ := act_put a o.dst V
   refine hn _ _ g3 ?_ (hP1.trans hP4) (by rw [e1]; exact putT_size _ _ _) e2
   rw [e1, hdst, hs']
   rw [hdst]
   exact hI4
  ·split at hs
   ·rename_i o1 σ1 hc
    split at hs
    case isFalse => cases hs
    injection hs with hs
    obtain ⟨v, rfl, hs'⟩ := eok hs
    refine go false fid (cl.args.map (evT a.tmps)) _ env1 v σ1 (by simpa using hc) (by rw [← hargs]; exact hI1) (by rw [hal]; simp) (fun i hi => k2 i (by rw [hal] at hi; exact hi)) k1 (fun h => by cases h) (fun h => by cases h) (fun hfn => ?_) hs'
    have := hres hp hfn
    simpa using this
   ·cases hs
 ·rename_i fid cap hv
  split at hs
  ·rename_i o1 σ1 hc
   injection hs with hs
   obtain ⟨v, rfl, hs'⟩ := eok hs
   rw [hv] at hfr
   have hp := hfr.any (fun _ => by simp)
   unfold RelA at hp
   obtain ⟨caps, hp, hcr⟩ := hp
   obtain ⟨hcl, _⟩ := hcr.get
   have hcr1 : RelAL g1 cap caps := RelAL.mono hP1.gle cap caps hcr
   obtain ⟨env2, hI2, j1, j2⟩ := Inv.caps cap caps hcr1 hI1
   have hsz : (a.tmps ++ (cl.args.toList.map (evT a.tmps)).toArray).size = a.tmps.size + cl.args.toList.length := by simp
   refine go false fid (cl.args.map (evT a.tmps) ++ caps.toArray) _ env2 v σ1 (by simpa using hc) (by rw [← hargs, ← Array.append_assoc]; exact hI2) (by simp [hal, hcl]) (fun i hi => ?_) (fun t ht => ?_) (fun h => by cases h) (fun h => by cases h) (fun hfn => hres hp hfn) hs'
   ·by_cases hlt : i < cl.args.toList.length
    ·rw [j1 _ (by rw [hsz]; omega), k2 i hlt, List.getElem?_append_left (by rw [hal]; exact hlt)]
    ·have := j2 (i - cl.args.toList.length) (by rw [List.length_append, hal] at hi; omega)
     rw [hsz, show a.tmps.size + cl.args.toList.length + (i - cl.args.toList.length) = a.tmps.size + i by omega] at this
     rw [this, List.getElem?_append_right (by rw [hal]; omega), hal]
   ·rw [j1 t (by rw [hsz]; omega)]; exact k1 t ht
  ·cases hs
 ·rename_i id hv
  split at hs
  ·rename_i o1 σ1 hc
   injection hs with hs
   obtain ⟨v, rfl, hs'⟩ := eok hs
   rw [hv] at hfr
   have hp := hfr.any (fun _ => by simp)
   unfold RelA at hp
   obtain ⟨e, he, _, hp⟩ := hp
   have hl : (nilTs ⟨ty, GL⟩ (opOf H (rd ⟨ty, GL⟩ s.env f)) 0 cl.argTypes.toList cl.args.toList (argsV ⟨ty, GL⟩ h s.env cl.args.toList)).length = (cl.args.map (evT a.tmps)).size := by rw [hal]; simp
   have hI1' : Inv GL B0 w0 g1 env1 s.σ (a.tmps ++ cl.args.map (evT a.tmps)) w := by rw [← hargs]; exact hI1
   obtain ⟨e', rec, he', hrec, hsz, hround⟩ := hC.yld _ _ _ _ _ hc B0 w0 _ _ w (by simpa using hI1'.split false hl (fun i hi => k2 i (by rw [hal] at hi; exact hi)) (fun h => by cases h)) hl
   have hge1 : g1.μ[id]? = some e := by
    obtain ⟨e1, h1, _, _, _, h5⟩ := hP1.gle.μ id e he
    rw [h1, h5 ‹_›]
   have he'' : g1.μ[id]? = some e' := he'
   rw [hge1] at he''
   injection he'' with he''; subst he''
   refine wpIn_intro hnd ?_
   have hr : (execOp (evT a.tmps) o).run P w = .ok (.round e.blk rec.fn ((rec.params.zip (cl.args.map (evT a.tmps))).foldl (fun tmps (t, a) => tmps.setIfInBounds t a) rec.tmps) rec.assign rec.body) w := by
    have hy := run_yield (P := P) (args := cl.args.map (evT a.tmps)) hrec hsz
    unfold execOp; rw [ho]
    have hp' : evT a.tmps f = .func (.yield e.blk) #[] #[] := hp
    simp [resolve, hcal, Deferred.ofValue, hp', invoke, hy]
   rw [hr, Oper.uponIn_round]
   refine ⟨fun h => (by cases h), RoundIn.mono (F := FW ro) hround fun x w' hx => ?_⟩
   obtain ⟨V, g2, rfl, hI3, hP3⟩ := hx
   exact back false _ [] env1 v σ1 V g2 w' hI1' k1 (fun h => by cases h) hs' hI3 hP3
  ·cases hs
 ·cases hs
def PanQ (GL : List (Nat × List PV)) (B0 : Nat) (w0 : World) (g : G) (w : World) (a : Act) (v : PV) (s' : S) (Q : Exit → Act → World → Prop) : Prop :=
 ∀ V g' w', RelP g'.Φ v V → Inv GL B0 w0 g' s'.env s'.σ a.tmps w' → Post g w g' w' → Q (.panic [{ v := V, recovered := false }]) a w'
theorem call_pan (hC : CallSim P GL C) (hFr : ∀ id args v σ σ', C (.yld id) args σ ≠ some (.pan v, σ')) {o : Oper} {cl : Call} {f : Operand} (ho : o.op = .call cl) (hcal : cl.callee = .value f) {a : Act} {N : Nat} (hN : N ≤ a.tmps.size) (hok : opOk N o = true)
 (hI : Inv GL B0 w0 g s.env s.σ a.tmps w) {v : PV} {s' : S} (hs : stepOp0 ⟨⟨ty, GL⟩, H, C, h, base⟩ o s = some (.pan v s')) {next : Act → World → Prop} {Q : Exit → Act → World → Prop} (hn : PanQ GL B0 w0 g w a v s' Q) : o.wpIn (FW ro) 0 P a w next Q := by
 unfold stepOp0 at hs
 rw [ho] at hs
 dsimp only at hs
 rw [hcal] at hs
 dsimp only at hs
 unfold opOk at hok
 rw [ho] at hok
 simp only [hcal, Bool.and_eq_true] at hok
 obtain ⟨⟨hd0, _⟩, hxs0, hdst0⟩ := hok
 obtain ⟨d, hdst⟩ := Option.isSome_iff_exists.1 hdst0
 rw [hdst] at hd0
 have hdl : d < a.tmps.size := Nat.lt_of_lt_of_le (by simpa using hd0) hN
 have hxs : ∀ x ∈ cl.args.toList, ∀ t : Nat, x = .tmp t → t < N := fun x hx t e => by
  have := List.all_eq_true.1 hxs0 x hx
  subst e
  simpa [xOk] using this
 have hxs' : ∀ x ∈ cl.args.toList, ∀ t : Nat, x = .tmp t → t < a.tmps.size := fun x hx t e => Nat.lt_of_lt_of_le (hxs x hx t e) hN
 obtain ⟨g1, env1, hI1, hP1, k1, k2, _⟩ := Inv.args (ty := ty) (h := h) (N := a.tmps.size) (tm0 := a.tmps) cl.args.toList (env := s.env) (env' := s.env) hxs' (Nat.le_refl _) (fun _ _ => rfl) (fun _ _ => rfl) hI
 have hal0 := argsV_len ⟨ty, GL⟩ h cl.args.toList s.env
 obtain ⟨env1, hI1, kk1, _, k2⟩ := hI1.nilArgs (T := ⟨ty, GL⟩) a.tmps.size (argsV ⟨ty, GL⟩ h s.env cl.args.toList) (opOf H (rd ⟨ty, GL⟩ s.env f)) cl.argTypes.toList cl.args.toList (fun i hi => k2 i (by rw [hal0] at hi; exact hi))
 have k1 : ∀ t, t < a.tmps.size → get env1 t = get (stripsM h s.env cl.args.toList) t := fun t ht => (kk1 t ht).trans (k1 t ht)
 have k2 : ∀ i, i < cl.args.toList.length → get env1 (a.tmps.size + i) = ((nilTs ⟨ty, GL⟩ (opOf H (rd ⟨ty, GL⟩ s.env f)) 0 cl.argTypes.toList cl.args.toList (argsV ⟨ty, GL⟩ h s.env cl.args.toList))[i]?).getD .undef := fun i hi => k2 i (by rw [hal0]; exact hi)
 have hargs : (cl.args.toList.map (evT a.tmps)).toArray = cl.args.map (evT a.tmps) := by
  apply Array.ext'; simp
 have hge : ∀ t, a.tmps.size ≤ t → RelS g t (get (stripsM h s.env cl.args.toList) t) Go.undef := fun t ht => by
  rw [get_stripsM ht _ _ hxs']
  have := hI.env t
  rwa [show a.tmps.getD t Go.undef = Go.undef by rw [Array.getD_eq_getD_getElem?, Array.getElem?_eq_none (by omega)]; rfl] at this
 have hal : (nilTs ⟨ty, GL⟩ (opOf H (rd ⟨ty, GL⟩ s.env f)) 0 cl.argTypes.toList cl.args.toList (argsV ⟨ty, GL⟩ h s.env cl.args.toList)).length = cl.args.toList.length := by rw [nilTs_len, hal0]
 have back : ∀ (pu : Bool) (Args : Array Value) (env2 : Env) (σ2 : List AObj) (V : Value) (g2 : G) (w' : World), Inv GL B0 w0 g1 env2 s.σ (a.tmps ++ Args) w →
  (∀ t, t < a.tmps.size → get env2 t = get (stripsM h s.env cl.args.toList) t) →
  s' = ({ s with env := stripsM h s.env cl.args.toList, σ := (if pu = true then s.σ else σ2) } : S).put o.dst .undef → Inv GL B0 w0 g2 [(0, .p v)] σ2 #[V] w' → Post (g1.callee a.tmps.size pu) w g2 w' → Q (.panic [{ v := V, recovered := false }]) a w' := by
  intro pu Args env2 σ2 V g2 w' hI2 ha1 hs' hI3 hP3
  obtain ⟨g3, hI4, hP4⟩ := hI2.join pu (env0 := stripsM h s.env cl.args.toList) (g0 := g) (fun t ht => (ha1 t ht).symm) hge hP3 hI3 (fun _ => rfl) hdl
  have hv := hI4.env d
  rw [putT_get hdl, if_pos rfl] at hv
  simp only [get, beq_self_eq_true, if_true] at hv
  have hv : RelP g3.Φ v V := by unfold RelS RelA at hv; exact hv
  refine hn V g3 w' hv ?_ (hP1.trans hP4)
  rw [hs', hdst]
  refine ⟨hI4.below, hI4.base, hI4.fz, hI4.tlt, hI4.own, fun t => ?_, hI4.objs, hI4.len, hI4.glob, hI4.mlt⟩
  have ht := hI4.env t
  rw [putT_get hdl] at ht
  show RelS g3 t (get ((d, AV.undef) :: stripsM h s.env cl.args.toList) t) _
  by_cases e : d = t
  ·subst e
   simp only [get, beq_self_eq_true, if_true]
   unfold RelS RelA; trivial
  ·rw [if_neg e] at ht
   simp only [get, beq_iff_eq, e, if_false] at ht ⊢
   exact ht
 have hnd : ∀ c, o.op ≠ .defer c := fun c e => by rw [ho] at e; cases e
 have go : ∀ (pu : Bool) (fid : FuncId) (Args : Array Value) (args : List AV) (env2 : Env) (σ2 : List AObj), C (.fn fid) args (if pu = true then [] else s.σ) = some (.pan v, σ2) → Inv GL B0 w0 g1 env2 s.σ (a.tmps ++ Args) w → args.length = Args.size →
  (∀ i, i < args.length → get env2 (a.tmps.size + i) = (args[i]?).getD .undef) → (∀ t, t < a.tmps.size → get env2 t = get (stripsM h s.env cl.args.toList) t) → (pu = true → ∀ x ∈ args, ltV 0 x = true) →
  ((∃ fn, P.funcs[fid]? = some fn ∧ fn.body.isSome = true ∧ (fn.name == "runtime.NumGoroutine") = false) → (execOp (evT a.tmps) o).run P w = .ok (.enter fid Args) w) →
  s' = ({ s with env := stripsM h s.env cl.args.toList, σ := (if pu = true then s.σ else σ2) } : S).put o.dst .undef → o.wpIn (FW ro) 0 P a w next Q := by
  intro pu fid Args args env2 σ2 hc hI2 hl ha0 ha1 hpa hr hs'
  obtain ⟨hfn, hcalls⟩ := hC.pan _ _ _ _ _ hc B0 w0 _ Args w (hI2.split pu hl ha0 hpa) hl
  refine wpIn_intro hnd ?_
  rw [hr hfn, Oper.uponIn_enter]
  refine ⟨fun h => (by cases h), CallsIn.mono (callsIn_FW.2 hcalls) fun e w' he => ?_⟩
  obtain ⟨V, g2, rfl, hI3, hP3⟩ := he
  exact back pu Args env2 σ2 V g2 w' hI2 ha1 hs' hI3 hP3
 have hres : ∀ {cap : Array Value} {fid : FuncId}, evT a.tmps f = .func (.func fid) #[] cap → (∃ fn, P.funcs[fid]? = some fn ∧ fn.body.isSome = true ∧ (fn.name == "runtime.NumGoroutine") = false) →
  (execOp (evT a.tmps) o).run P w = .ok (.enter fid (cl.args.map (evT a.tmps) ++ cap)) w := by
  rintro cap fid e ⟨fn, hf, hb, hnm⟩
  unfold execOp; rw [ho]
  have hb' : fn.body ≠ none := fun e => by rw [e] at hb; cases hb
  have hnm' : fn.name ≠ "runtime.NumGoroutine" := by simpa using hnm
  simp [resolve, hcal, Deferred.ofValue, e, invoke, callFunc, hf, hnm', hb']
 have hfr := hI.rd (ty := ty) f
 unfold callV at hs
 have eok : ∀ {σ : List AObj} {o1 : Out} {s0 : S}, endCall s0 o.dst σ o1 = .pan v s' → o1 = .pan v ∧ s' = ({ s0 with σ := σ } : S).put o.dst .undef := by
  intro σ o1 s0 h
  cases o1 with
  | ret v => cases h
  | pan v => injection h with h1 h2; exact ⟨by rw [h1], h2.symm⟩
 split at hs
 ·rename_i fid hv
  rw [hv] at hfr
  have hp := hfr.pure
  unfold RelP at hp
  split at hs
  ·rename_i hpu0
   split at hs
   ·rename_i hpa
    split at hs
    ·rename_i o1 σ1 hc
     injection hs with hs
     obtain ⟨rfl, hs'⟩ := eok hs
     refine go true fid (cl.args.map (evT a.tmps)) _ env1 σ1 (by simpa using hc) (by rw [← hargs]; exact hI1) (by rw [hal]; simp) (fun i hi => k2 i (by rw [hal] at hi; exact hi)) k1 (fun _ => pureArgs_lt hpa) (fun hfn => ?_) hs'
     have := hres hp hfn
     simpa using this
    ·cases hs
   ·cases hs
  split at hs
  ·obtain ⟨o1, q6, q7, hq⟩ := rmRun_ok hs
   obtain ⟨rfl, hs'⟩ := eok q7.symm
   cases q6
  ·split at hs
   ·rename_i o1 σ1 hc
    split at hs
    case isFalse => cases hs
    injection hs with hs
    obtain ⟨rfl, hs'⟩ := eok hs
    refine go false fid (cl.args.map (evT a.tmps)) _ env1 σ1 (by simpa using hc) (by rw [← hargs]; exact hI1) (by rw [hal]; simp) (fun i hi => k2 i (by rw [hal] at hi; exact hi)) k1 (fun h => by cases h) (fun hfn => ?_) hs'
    have := hres hp hfn
    simpa using this
   ·cases hs
 ·rename_i fid cap hv
  split at hs
  ·rename_i o1 σ1 hc
   injection hs with hs
   obtain ⟨rfl, hs'⟩ := eok hs
   rw [hv] at hfr
   have hp := hfr.any (fun _ => by simp)
   unfold RelA at hp
   obtain ⟨caps, hp, hcr⟩ := hp
   obtain ⟨hcl, _⟩ := hcr.get
   have hcr1 : RelAL g1 cap caps := RelAL.mono hP1.gle cap caps hcr
   obtain ⟨env2, hI2, j1, j2⟩ := Inv.caps cap caps hcr1 hI1
   have hsz : (a.tmps ++ (cl.args.toList.map (evT a.tmps)).toArray).size = a.tmps.size + cl.args.toList.length := by simp
   refine go false fid (cl.args.map (evT a.tmps) ++ caps.toArray) _ env2 σ1 (by simpa using hc) (by rw [← hargs, ← Array.append_assoc]; exact hI2) (by simp [hal, hcl]) (fun i hi => ?_) (fun t ht => ?_) (fun h => by cases h) (fun hfn => hres hp hfn) hs'
   ·by_cases hlt : i < cl.args.toList.length
    ·rw [j1 _ (by rw [hsz]; omega), k2 i hlt, List.getElem?_append_left (by rw [hal]; exact hlt)]
    ·have := j2 (i - cl.args.toList.length) (by rw [List.length_append, hal] at hi; omega)
     rw [hsz, show a.tmps.size + cl.args.toList.length + (i - cl.args.toList.length) = a.tmps.size + i by omega] at this
     rw [this, List.getElem?_append_right (by rw [hal]; omega), hal]
   ·rw [j1 t (by rw [hsz]; omega)]; exact k1 t ht
  ·cases hs
 ·rename_i id hv
  split at hs
  ·rename_i o1 σ1 hc
   injection hs with hs
   obtain ⟨rfl, _⟩ := eok hs
   exact absurd hc (hFr _ _ _ _ _)
  ·cases hs
 ·cases hs
theorem op_pan0 (hC : CallSim P GL C) (hFr : ∀ id args v σ σ', C (.yld id) args σ ≠ some (.pan v, σ')) {o : Oper} {a : Act} {N : Nat} (hN : N ≤ a.tmps.size) (hok : opOk N o = true)
 (hI : Inv GL B0 w0 g s.env s.σ a.tmps w) {v : PV} {s' : S} (hs : stepOp0 ⟨⟨ty, GL⟩, H, C, h, base⟩ o s = some (.pan v s')) {next : Act → World → Prop} {Q : Exit → Act → World → Prop} (hn : PanQ GL B0 w0 g w a v s' Q) : o.wpIn (FW ro) 0 P a w next Q := by
 have hs0 := hs
 unfold stepOp0 at hs
 have res : ∀ {d : Option Nat} {x : Option AV}, putRes s d x = some (.pan v s') → False := by
  intro d x h
  cases x <;> cases h
 have fr : ∀ {d : Option Nat} {x : Option (PV × List AObj)}, frzR d s x = some (.pan v s') → False := by
  intro d x h
  cases x <;> cases h
 split at hs
 case h_24 x ho =>
  split at hs
  ·rename_i t u hx
   injection hs with hs; injection hs with h1 h2; subst h1; subst h2
   refine wpIn_intro (fun c e => by rw [ho] at e; cases e) ?_
   have hr := hI.rdc (ty := ty) x
   rw [hx] at hr
   unfold RelA at hr
   have hr0 := hr
   unfold RelP at hr
   obtain ⟨U, e, hU⟩ := hr
   have : (execOp (evT a.tmps) o).run P w = .halt (.panic (.iface t U)) w := by
    unfold execOp; rw [ho]
    simp [e, run_pan]
   rw [this]
   exact hn _ g w (by rw [e] at hr0; exact hr0) hI (Post.refl g w)
  ·cases hs
 case h_28 cl ho =>
  split at hs
  ·rename_i f hcal
   exact call_pan hC hFr ho hcal hN hok hI hs0 hn
  all_goals (exfalso; repeat' (first | (cases hs; done) | split at hs))
 all_goals (exfalso; repeat' (first | (cases hs; done) | exact res hs | exact fr hs | split at hs))
theorem op_wp0 (hT : TabOk P ⟨ty, GL⟩) (hC : CallSim P GL C) (hG0 : ∀ f args v σ', (H f).pu = true → C (.fn f) args [] = some (.ret v, σ') → ltV 0 v = true) {o : Oper} {a : Act} {N : Nat} (hN : N ≤ a.tmps.size) (hok : opOk N o = true)
 (hI : Inv GL B0 w0 g s.env s.σ a.tmps w) {s' : S} (hs : stepOp0 ⟨⟨ty, GL⟩, H, C, h, base⟩ o s = some (.ok s')) {next : Act → World → Prop} {Q : Exit → Act → World → Prop} (hn : Next' GL B0 w0 g w a s' next) : o.wpIn (FW ro) 0 P a w next Q := by
 have hnd : ∀ c, o.op ≠ .defer c := fun c e => by
  unfold stepOp0 at hs
  rw [e] at hs
  cases hs
 have hd : ∀ d, o.dst = some d → d < a.tmps.size := fun d e => by
  unfold opOk at hok
  simp only [e, Bool.and_eq_true, decide_eq_true_eq] at hok
  exact Nat.lt_of_lt_of_le hok.1.1 hN
 cases ho : o.op with
 | move x => exact SimR.wp hnd hn (sim_moveF ho hI hd hs)
 | assign x => exact SimR.wp hnd hn (sim_assign ho hI hd hs)
 | pick c x y => exact SimR.wp hnd hn (sim_pick ho hI hd hs)
 | binOp op t x y t' => exact SimR.wp hnd hn (sim_binOp hT ho hI hd hs)
 | unOp op t x => exact SimR.wp hnd hn (sim_unOp ho hI hd hs)
 | alloc t => exact SimR.wp hnd hn (sim_alloc hT ho hI hd hs)
 | box t x =>
  refine SimR.wp hnd hn (sim_box ho hI hd (fun d e hx => ?_) hs)
  unfold opOk at hok
  rw [ho] at hok
  simp only [e, Bool.and_eq_true] at hok
  subst hx
  simpa using hok.2
 | build t ps => exact SimR.wp hnd hn (sim_build hT ho hI hd hs)
 | buildSlice t n ps => exact SimR.wp hnd hn (sim_buildSlice hT ho hI hd hs)
 | nilCheck x => exact SimR.wp hnd hn (sim_nilCheck ho hI hd hs)
 | indexAddr t x i => exact SimR.wp hnd hn (sim_indexAddr hT ho hI hd hs)
 | fieldAddr t x f => exact SimR.wp hnd hn (sim_fieldAddr hT ho hI hd hs)
 | field t x f => exact SimR.wp hnd hn (sim_field hT ho hI hd hs)
 | index t x i => exact SimR.wp hnd hn (sim_index hT ho hI hd hs)
 | load t x => exact SimR.wp hnd hn (sim_load hT ho hI hd hs)
 | store t x y =>
  refine SimR.wp hnd hn (sim_store hT ho ?_ hI hs)
  unfold opOk at hok
  rw [ho] at hok
  simp only [Bool.and_eq_true, Option.isNone_iff_eq_none] at hok
  exact hok.2
 | slice t x lo hi mx => exact SimR.wp hnd hn (sim_slice hT ho hI hd hs)
 | convert t t' x => exact SimR.wp hnd hn (sim_convert hT ho hI hd hs)
 | extract x i =>
  refine SimR.wp hnd hn (sim_extract ho hI hd ?_ hs)
  unfold opOk at hok
  rw [ho] at hok
  simp only [Bool.and_eq_true] at hok
  exact hok.2
 | makeFunc fn fs cs => exact SimR.wp hnd hn (sim_makeFunc ho hI hd hs)
 | makeInterface t x => exact SimR.wp hnd hn (sim_makeInterface hT ho hI hd hs)
 | typeAssert x t u ok => exact SimR.wp hnd hn (sim_typeAssert hT ho hI hd hs)
 | makeSlice t l k => exact SimR.wp hnd hn (sim_makeSlice hT ho hI hd hs)
 | makeMap t r => exact SimR.wp hnd hn (sim_makeMap hT ho hI hd hs)
 | lookup t x i ok => exact SimR.wp hnd hn (sim_lookup hT ho hI hd hs)
 | mapUpdate t m k x =>
  refine SimR.wp hnd hn (sim_mapUpdate hT ho ?_ hI hs)
  unfold opOk at hok
  rw [ho] at hok
  simp only [Bool.and_eq_true, Option.isNone_iff_eq_none] at hok
  exact hok.2
 | panic x =>
  unfold stepOp0 at hs
  rw [ho] at hs
  dsimp only at hs
  split at hs <;> cases hs
 | call cl =>
  cases hcal : cl.callee with
  | value f => exact call_wp hC hG0 ho hcal hN hok hI hs hn
  | invoke r m =>
   unfold stepOp0 at hs
   rw [ho] at hs
   dsimp only at hs
   rw [hcal] at hs
   cases hs
  | builtin b =>
   cases b with
   | len => exact SimR.wp hnd hn (sim_len hT ho hcal hI hd hs)
   | append => exact SimR.wp hnd hn (sim_append hT ho hcal hI hd hs)
   | min => exact SimR.wp hnd hn (sim_min ho hcal hI hd hs)
   | max => exact SimR.wp hnd hn (sim_max ho hcal hI hd hs)
   | copy => exact SimR.wp hnd hn (sim_copy hT ho hcal hI hd hs)
   | _ =>
    unfold stepOp0 at hs
    rw [ho] at hs
    dsimp only at hs
    rw [hcal] at hs
    cases hs
 | _ =>
  unfold stepOp0 at hs
  rw [ho] at hs
  cases hs
theorem op_wp (hT : TabOk P ⟨ty, GL⟩) (hC : CallSim P GL C) (hG0 : ∀ f args v σ', (H f).pu = true → C (.fn f) args [] = some (.ret v, σ') → ltV 0 v = true) {o : Oper} {a : Act} {N : Nat} (hN : N ≤ a.tmps.size) (hok : opOk N o = true)
 (hI : Inv GL B0 w0 g s.env s.σ a.tmps w) {s' : S} (hs : stepOp ⟨⟨ty, GL⟩, H, C, h, base⟩ o s = some (.ok s')) {next : Act → World → Prop} {Q : Exit → Act → World → Prop} (hn : Next' GL B0 w0 g w a s' next) : o.wpIn (FW ro) 0 P a w next Q := by
 have hs := (stepOp_of hs).2
 refine op_wp0 hT (C := frK (frOf h o.dst) base C) (hC.frK _ _) (fun f args v σ' hp hc => ?_) hN hok hI hs hn
 cases hk : frOf h o.dst with
 | none => rw [hk] at hc; exact hG0 f args v σ' hp hc
 | some k =>
  rw [hk] at hc
  have hc : frC (frId base k) C (Cal.fn f) args [] = some (Out.ret v, σ') := hc
  obtain ⟨cs, σ1, h0, _⟩ := frC_some hc
  cases h0
theorem op_pan (hC : CallSim P GL C) (hFr : ∀ id args v σ σ', C (.yld id) args σ ≠ some (.pan v, σ')) {o : Oper} {a : Act} {N : Nat} (hN : N ≤ a.tmps.size) (hok : opOk N o = true)
 (hI : Inv GL B0 w0 g s.env s.σ a.tmps w) {v : PV} {s' : S} (hs : stepOp ⟨⟨ty, GL⟩, H, C, h, base⟩ o s = some (.pan v s')) {next : Act → World → Prop} {Q : Exit → Act → World → Prop} (hn : PanQ GL B0 w0 g w a v s' Q) : o.wpIn (FW ro) 0 P a w next Q := by
 have hs := (stepOp_of hs).2
 refine op_pan0 (C := frK (frOf h o.dst) base C) (hC.frK _ _) (fun id args v σ σ' hc => ?_) hN hok hI hs hn
 cases hk : frOf h o.dst with
 | none => rw [hk] at hc; exact hFr _ _ _ _ _ hc
 | some k =>
  rw [hk] at hc
  obtain ⟨cs, σ1, _, h1, _⟩ := frC_some (show frC (frId base k) C (Cal.yld id) args σ = some (Out.pan v, σ') from hc)
  exact hFr _ _ _ _ _ h1
end
end Go.AM
