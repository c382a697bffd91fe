/- A part of the abstract machine and its simulation. -/
import Derived.Test.YtbalikooghpmlaaDoorAmLim
set_option linter.unusedVariables false
set_option linter.unusedSimpArgs false
namespace Go.AM
open Go
section
variable {P : Program} {T : Tab} {H : FuncId → FH} {R : Type}
noncomputable def run (P : Program) (T : Tab) (H : FuncId → FH) (fi base blk : Nat) (c : Code) (s : S) (K : Ex × S → Option R) : Option R := (ev P T H fi base blk c s).bind K
noncomputable def ro (P : Program) (T : Tab) (H : FuncId → FH) (fi base : Nat) (draw : DR) (all ops : List Oper) (s : S) (K : Ex × S → Option R) : Option R := (exOf draw (stepOps ⟨T, H, call P T H, H fi, base⟩ all ops s)).bind K
noncomputable def contR (P : Program) (T : Tab) (H : FuncId → FH) (fi base : Nat) (draw : DR) (all os : List Oper) (K : Ex × S → Option R) : Option Rs → Option R
 | some (.ok s) => ro P T H fi base draw all os s K
 | some (.pan v s) => (exPan v s draw).bind K
 | none => none
noncomputable def seqK (P : Program) (T : Tab) (H : FuncId → FH) (fi base blk : Nat) (b : Code) (K : Ex × S → Option R) : Ex × S → Option R
 | (.normal, s) => run P T H fi base blk b s K
 | r => K r
def blockK (id : Nat) (outs : Option (List Nat)) (K : Ex × S → Option R) : Ex × S → Option R
 | (.exit i, s) => if i = id then K (.normal, s.mask outs) else K (.exit i, s)
 | (.normal, s) => K (.normal, s.mask outs)
 | r => K r
noncomputable def loopK (P : Program) (T : Tab) (H : FuncId → FH) (fi base blk : Nat) (c : Code) (n : Nat) (live : List Nat) (K : Ex × S → Option R) : Ex × S → Option R
 | (.normal, s) => if ltEnv n (maskEnv s.env live) = true then run P T H fi base blk (.loop c) { s with env := maskEnv s.env live, σ := s.σ.take n } K else none
 | (.exit i, s) => K (.exit i, cutS blk (lookupL (H fi).outs blk) n i s)
 | r => K r
theorem run_skip (fi base blk : Nat) (s : S) (K : Ex × S → Option R) : run P T H fi base blk .skip s K = K (.normal, s) := by rw [run, ev_eq]; rfl
theorem run_exit (fi base blk : Nat) (id : Nat) (s : S) (K : Ex × S → Option R) : run P T H fi base blk (.exit id) s K = K (.exit id, s) := by rw [run, ev_eq]; rfl
theorem run_ret (fi base blk : Nat) (s : S) (K : Ex × S → Option R) : run P T H fi base blk .ret s K = K (.ret, s) := by rw [run, ev_eq]; rfl
theorem run_scope (fi base blk : Nat) (c : Code) (s : S) (K : Ex × S → Option R) : run P T H fi base blk (.scope c) s K = run P T H fi base blk c s K := by rw [run, ev_eq]; rfl
theorem run_label (fi base blk : Nat) (l : Nat) (s : S) (K : Ex × S → Option R) : run P T H fi base blk (.label l) s K = K (.normal, s) := by rw [run, ev_eq]; rfl
theorem run_seq (fi base blk : Nat) (a b : Code) (s : S) (K : Ex × S → Option R) : run P T H fi base blk (.seq a b) s K = run P T H fi base blk a s (seqK P T H fi base blk b K) := by
 rw [run, ev_eq, run]
 show (thenS _ (ev P T H fi base blk a s)).bind K = _
 cases ev P T H fi base blk a s with
 | none => rfl
 | some r => obtain ⟨e, s⟩ := r; cases e <;> rfl
theorem run_block (fi base blk id : Nat) (c : Code) (s : S) (K : Ex × S → Option R) : run P T H fi base blk (.block id c) s K = run P T H fi base id c s (blockK id (lookupL (H fi).outs id) K) := by
 rw [run, ev_eq, run]
 show (blockEx id _ (ev P T H fi base id c s)).bind K = _
 cases ev P T H fi base id c s with
 | none => rfl
 | some r =>
  obtain ⟨e, s⟩ := r
  cases e with
  | exit i => simp only [blockEx, Option.bind_some, blockK]; split <;> rfl
  | _ => rfl
def condK (A B : Option R) : AV → Option R
 | .p (.lit (.bool t)) => if t = true then A else B
 | _ => none
theorem condK_bool (A B : Option R) (t : Bool) : condK A B (.p (.lit (.bool t))) = if t = true then A else B := rfl
theorem run_cond (fi base blk : Nat) (x : Operand) (a b : Code) (s : S) (K : Ex × S → Option R) : run P T H fi base blk (.cond x a b) s K =
 condK (run P T H fi base blk a s K) (run P T H fi base blk b s K) (rd T s.env x) := by
 rw [run, ev_eq]
 simp only [evF]
 unfold condK
 cases rd T s.env x with
 | p v =>
  cases v with
  | lit u => cases u with
   | bool t => dsimp only; split <;> rfl
   | _ => rfl
  | _ => rfl
 | _ => rfl
theorem run_region (fi base blk id : Nat) (ops : Array Oper) (d : Bool) (s : S) (K : Ex × S → Option R) : run P T H fi base blk (.region id ops d) s K = ro P T H fi base (drOf (H fi) base id d) ops.toList ops.toList s K := by rw [run, ev_eq]; rfl
theorem ro_nil (fi base : Nat) (draw : DR) (all : List Oper) (s : S) (K : Ex × S → Option R) : ro P T H fi base draw all [] s K = K (.normal, s) := rfl
noncomputable def grd (P : Program) (T : Tab) (H : FuncId → FH) (fi base : Nat) (draw : DR) (all : List Oper) (o : Oper) (os : List Oper) (s : S) (K : Ex × S → Option R) : Option (Option (Nat × Option Bool × Bool)) → Option R
 | none => none
 | some none => contR P T H fi base draw all os K (stepOp ⟨T, H, call P T H, H fi, base⟩ o s)
 | some (some (d, b, want)) => if b = some want then contR P T H fi base draw all os K (stepOp ⟨T, H, call P T H, H fi, base⟩ o (s.put (some d) (.p (.lit (.bool want)))))
  else ro P T H fi base draw all os ((s.put (some d) (gv b want)).put o.dst udV) K
theorem grd_none (fi base : Nat) (draw : DR) (all : List Oper) (o : Oper) (os : List Oper) (s : S) (K : Ex × S → Option R) : grd P T H fi base draw all o os s K none = none := rfl
theorem grd_free (fi base : Nat) (draw : DR) (all : List Oper) (o : Oper) (os : List Oper) (s : S) (K : Ex × S → Option R) : grd P T H fi base draw all o os s K (some none) = contR P T H fi base draw all os K (stepOp ⟨T, H, call P T H, H fi, base⟩ o s) := rfl
theorem grd_some (fi base : Nat) (draw : DR) (all : List Oper) (o : Oper) (os : List Oper) (s : S) (K : Ex × S → Option R) (d : Nat) (b w : Bool) : grd P T H fi base draw all o os s K (some (some (d, some b, w))) =
 if b = w then contR P T H fi base draw all os K (stepOp ⟨T, H, call P T H, H fi, base⟩ o (s.put (some d) (.p (.lit (.bool w)))))
  else ro P T H fi base draw all os ((s.put (some d) (.p (.lit (.bool !w)))).put o.dst udV) K := by
 simp only [grd, Option.some.injEq, gv]
theorem grd_skip (fi base : Nat) (draw : DR) (all : List Oper) (o : Oper) (os : List Oper) (s : S) (K : Ex × S → Option R) (d : Nat) (w : Bool) : grd P T H fi base draw all o os s K (some (some (d, none, w))) =
 ro P T H fi base draw all os ((s.put (some d) udV).put o.dst udV) K := by
 simp only [grd, gv, reduceCtorEq, if_false]
theorem ro_cons (fi base : Nat) (draw : DR) (all : List Oper) (o : Oper) (os : List Oper) (s : S) (K : Ex × S → Option R) : ro P T H fi base draw all (o :: os) s K = grd P T H fi base draw all o os s K (guardOf all s.env o) := by
 have go : ∀ s, (exOf draw (thenR (stepOps ⟨T, H, call P T H, H fi, base⟩ all os) (stepOp ⟨T, H, call P T H, H fi, base⟩ o s))).bind K = contR P T H fi base draw all os K (stepOp ⟨T, H, call P T H, H fi, base⟩ o s) := by
  intro s
  cases stepOp ⟨T, H, call P T H, H fi, base⟩ o s with
  | none => rfl
  | some r => cases r with
   | ok s => rfl
   | pan v s => rfl
 rw [ro, stepOps]
 cases guardOf all s.env o with
 | none => rfl
 | some g =>
  cases g with
  | none => exact go _
  | some g =>
   obtain ⟨d, b, want⟩ := g
   simp only [grd]
   split
   ·exact go _
   ·rfl
theorem run_loop_mask (fi base blk : Nat) (c : Code) (s : S) (K : Ex × S → Option R) {live : List Nat} (h : lookupL (H fi).heads blk = some live) : run P T H fi base blk (.loop c) s K =
 run P T H fi s.σ.length blk c { s with env := maskEnv s.env live } (loopK P T H fi base blk c s.σ.length live K) := by
 rw [run, ev_eq]
 simp only [evF, h]
 rw [run]
 show (thenS _ (cutX _ _ _ (ev P T H fi s.σ.length blk c { s with env := maskEnv s.env live }))).bind K = _
 cases ev P T H fi s.σ.length blk c { s with env := maskEnv s.env live } with
 | none => rfl
 | some r =>
  obtain ⟨e, s'⟩ := r
  cases e with
  | normal =>
   simp only [thenS, cutX, roundEnd, Option.bind_some, loopK]
   split <;> rfl
  | _ => rfl
theorem seqK_normal (fi base blk : Nat) (b : Code) (K : Ex × S → Option R) (s : S) : seqK P T H fi base blk b K (.normal, s) = run P T H fi base blk b s K := rfl
theorem seqK_exit (fi base blk : Nat) (b : Code) (K : Ex × S → Option R) (s : S) (i : Nat) : seqK P T H fi base blk b K (.exit i, s) = K (.exit i, s) := rfl
theorem seqK_ret (fi base blk : Nat) (b : Code) (K : Ex × S → Option R) (s : S) : seqK P T H fi base blk b K (.ret, s) = K (.ret, s) := rfl
theorem seqK_pan (fi base blk : Nat) (b : Code) (K : Ex × S → Option R) (s : S) (v : PV) : seqK P T H fi base blk b K (.pan v, s) = K (.pan v, s) := rfl
theorem blockK_normal (id : Nat) (o : Option (List Nat)) (K : Ex × S → Option R) (s : S) : blockK id o K (.normal, s) = K (.normal, s.mask o) := rfl
theorem blockK_exit (id i : Nat) (o : Option (List Nat)) (K : Ex × S → Option R) (s : S) : blockK id o K (.exit i, s) = if i = id then K (.normal, s.mask o) else K (.exit i, s) := rfl
theorem blockK_ret (id : Nat) (o : Option (List Nat)) (K : Ex × S → Option R) (s : S) : blockK id o K (.ret, s) = K (.ret, s) := rfl
theorem blockK_pan (id : Nat) (o : Option (List Nat)) (K : Ex × S → Option R) (s : S) (v : PV) : blockK id o K (.pan v, s) = K (.pan v, s) := rfl
theorem loopK_normal (fi base blk n : Nat) (c : Code) (live : List Nat) (K : Ex × S → Option R) (s : S) : loopK P T H fi base blk c n live K (.normal, s) =
 if ltEnv n (maskEnv s.env live) = true then run P T H fi base blk (.loop c) { s with env := maskEnv s.env live, σ := s.σ.take n } K else none := rfl
theorem loopK_exit (fi base blk n : Nat) (c : Code) (live : List Nat) (K : Ex × S → Option R) (s : S) (i : Nat) : loopK P T H fi base blk c n live K (.exit i, s) = K (.exit i, cutS blk (lookupL (H fi).outs blk) n i s) := rfl
theorem loopK_ret (fi base blk n : Nat) (c : Code) (live : List Nat) (K : Ex × S → Option R) (s : S) : loopK P T H fi base blk c n live K (.ret, s) = K (.ret, s) := rfl
theorem loopK_pan (fi base blk n : Nat) (c : Code) (live : List Nat) (K : Ex × S → Option R) (s : S) (v : PV) : loopK P T H fi base blk c n live K (.pan v, s) = K (.pan v, s) := rfl
theorem contR_ok (fi base : Nat) (draw : DR) (all os : List Oper) (K : Ex × S → Option R) (s : S) : contR P T H fi base draw all os K (some (.ok s)) = ro P T H fi base draw all os s K := rfl
theorem contR_pan (fi base : Nat) (draw : DR) (all os : List Oper) (K : Ex × S → Option R) (v : PV) (s : S) : contR P T H fi base draw all os K (some (.pan v s)) = (exPan v s draw).bind K := rfl
theorem contR_none (fi base : Nat) (draw : DR) (all os : List Oper) (K : Ex × S → Option R) : contR P T H fi base draw all os K none = none := rfl
theorem run_reg (fi base blk id : Nat) (l : List Oper) (d : Bool) (s : S) (K : Ex × S → Option R) : run P T H fi base blk (.region id l.toArray d) s K = ro P T H fi base (drOf (H fi) base id d) l l s K := by rw [run_region]
theorem run_cg {fi base blk : Nat} {c : Code} {s s' : S} {K : Ex × S → Option R} (h : s = s') : run P T H fi base blk c s K = run P T H fi base blk c s' K := by rw [h]
theorem ro_cg {fi base : Nat} {d : DR} {all ops : List Oper} {s s' : S} {K : Ex × S → Option R} (h : s = s') : ro P T H fi base d all ops s K = ro P T H fi base d all ops s' K := by rw [h]
theorem contR_cg {fi base : Nat} {d : DR} {all ops : List Oper} {K : Ex × S → Option R} {r r' : Option Rs} (h : r = r') : contR P T H fi base d all ops K r = contR P T H fi base d all ops K r' := by rw [h]
theorem grd_cg {fi base : Nat} {d : DR} {all : List Oper} {o : Oper} {os : List Oper} {s s' : S} {K : Ex × S → Option R} {g g' : Option (Option (Nat × Option Bool × Bool))} (h : s = s') (hg : g = g') : grd P T H fi base d all o os s K g = grd P T H fi base d all o os s' K g' := by rw [h, hg]
theorem condK_cg {A B : Option R} {c c' : AV} (h : c = c') : condK A B c = condK A B c' := by rw [h]
theorem seqK_cg {fi base blk : Nat} {b : Code} {K : Ex × S → Option R} {x x' : Ex × S} (h : x = x') : seqK P T H fi base blk b K x = seqK P T H fi base blk b K x' := by rw [h]
theorem blockK_cg {id : Nat} {o : Option (List Nat)} {K : Ex × S → Option R} {x x' : Ex × S} (h : x = x') : blockK id o K x = blockK id o K x' := by rw [h]
theorem loopK_cg {fi base blk n : Nat} {c : Code} {live : List Nat} {K : Ex × S → Option R} {x x' : Ex × S} (h : x = x') : loopK P T H fi base blk c n live K x = loopK P T H fi base blk c n live K x' := by rw [h]
noncomputable def endK (P : Program) (T : Tab) (H : FuncId → FH) (f : FuncId) (fn : List ResultVar) (base : Nat) : Ex × S → Option (Out × List AObj)
 | (.normal, s) | (.ret, s) => (match s.dfs with
  | [] => finish T (H f) base fn s
  | _ => (endBody T (H f) base fn (dfsL P T H none s)).bind fun r => some (r.1, r.2.1))
 | (.pan v, s) => (match s.dfs with
  | [] => some (.pan v, s.σ.take base)
  | _ => (endBody T (H f) base fn (dfsL P T H (some v) s)).bind fun r => some (r.1, r.2.1))
 | _ => none
theorem call_fn {f : FuncId} {fn : Func} {c : Code} (hf : P.funcs[f]? = some fn) (hc : fn.body = some c) (ho : (H f).ok = true) (hp : (H f).pr = none) (hdf : (H f).df = false) (args : List AV) (σ : List AObj) :
 call P T H (.fn f) args σ = run P T H f σ.length 0 c { env := envOf 0 args, σ := σ } (endK P T H f fn.results.toList σ.length) := by
 rw [call_eq, body_eq]
 simp only [bodyF, bodyC, hp, hf, hc, ho, hdf, Bool.true_eq_false, Bool.false_eq_true, if_false]
 rw [run]
 cases ev P T H f σ.length 0 c { env := envOf 0 args, σ := σ } with
 | none => rfl
 | some r =>
  obtain ⟨e, s⟩ := r
  have h0 : s.dfs = [] → ∀ pv, dfsL P T H pv s = some (pv, s) := by
   intro h pv
   rw [dfs_eq]; unfold dfsF; rw [h]
  have hn : ((endBody T (H f) σ.length fn.results.toList (dfsL P T H none s)).bind fun r => some (r.1, r.2.1)) = (match s.dfs with
   | [] => finish T (H f) σ.length fn.results.toList s
   | _ => (endBody T (H f) σ.length fn.results.toList (dfsL P T H none s)).bind fun r => some (r.1, r.2.1)) := by
   split
   ·rename_i h
    rw [h0 h]
    simp only [endBody]
    cases finish T (H f) σ.length fn.results.toList s <;> rfl
   ·rfl
  cases e with
  | normal => exact hn
  | ret => exact hn
  | exit i => rfl
  | pan v =>
   show ((endBody T (H f) σ.length fn.results.toList (dfsL P T H (some v) s)).bind fun r => some (r.1, r.2.1)) = (match s.dfs with
    | [] => some (.pan v, s.σ.take σ.length)
    | _ => (endBody T (H f) σ.length fn.results.toList (dfsL P T H (some v) s)).bind fun r => some (r.1, r.2.1))
   split
   ·rename_i h
    rw [h0 h]
    rfl
   ·rfl
noncomputable def gdR (P : Program) (T : Tab) (H : FuncId → FH) (g : FuncId) (args : List AV) (σ : List AObj) (pv : Option PV) (K : List AObj → Option R) : Option R := (guardF P H (ev P T H) g args σ pv).bind K
noncomputable def endDK (P : Program) (T : Tab) (H : FuncId → FH) (f : FuncId) (rs : List ResultVar) (base : Nat) (g : FuncId) (args : List AV) : Ex × S → Option (Out × List AObj)
 | (.normal, s) | (.ret, s) => gdR P T H g args s.σ none fun σ => finish T (H f) base rs { s with σ := σ }
 | (.pan v, s) => gdR P T H g args s.σ (some v) fun σ => finish T (H f) base rs { s with σ := σ }
 | _ => none
noncomputable def goD (P : Program) (T : Tab) (H : FuncId → FH) (f : FuncId) (rs : List ResultVar) (base : Nat) (b : Code) (s : S) : Option (FuncId × List AV) → Option (Out × List AObj)
 | some (g, args) => run P T H f base 0 b s (endDK P T H f rs base g args)
 | none => none
noncomputable def callD1 (P : Program) (T : Tab) (H : FuncId → FH) (f : FuncId) (rs : List ResultVar) (base : Nat) (cl : Call) (b : Code) : Ex × S → Option (Out × List AObj)
 | (.normal, s) => goD P T H f rs base b s (fnArgs T s.env cl)
 | _ => none
noncomputable def callD0 (P : Program) (T : Tab) (H : FuncId → FH) (f : FuncId) (rs : List ResultVar) (base : Nat) (all : List Oper) (cl : Call) (b : Code) (x : Ex × S) : Option (Out × List AObj) := (preD T H f base all x).bind (callD1 P T H f rs base cl b)
theorem goD_some (f : FuncId) (rs : List ResultVar) (base : Nat) (b : Code) (s : S) (g : FuncId) (args : List AV) : goD P T H f rs base b s (some (g, args)) = run P T H f base 0 b s (endDK P T H f rs base g args) := rfl
theorem endDK_normal (f : FuncId) (rs : List ResultVar) (base : Nat) (g : FuncId) (args : List AV) (s : S) : endDK P T H f rs base g args (.normal, s) = gdR P T H g args s.σ none fun σ => finish T (H f) base rs { s with σ := σ } := rfl
theorem endDK_ret (f : FuncId) (rs : List ResultVar) (base : Nat) (g : FuncId) (args : List AV) (s : S) : endDK P T H f rs base g args (.ret, s) = gdR P T H g args s.σ none fun σ => finish T (H f) base rs { s with σ := σ } := rfl
theorem endDK_pan (f : FuncId) (rs : List ResultVar) (base : Nat) (g : FuncId) (args : List AV) (s : S) (v : PV) : endDK P T H f rs base g args (.pan v, s) = gdR P T H g args s.σ (some v) fun σ => finish T (H f) base rs { s with σ := σ } := rfl
theorem call_fnD {f : FuncId} {fn : Func} {c : Code} (hf : P.funcs[f]? = some fn) (hc : fn.body = some c) (ho : (H f).ok = true) (hp : (H f).pr = none) (hdf : (H f).df = true) {a b : Code} {all : List Oper} {cl : Call} (hs : splitD c = some (a, all, cl, b)) (args : List AV) (σ : List AObj) :
 call P T H (.fn f) args σ = run P T H f σ.length 0 a { env := envOf 0 args, σ := σ } (callD0 P T H f fn.results.toList σ.length all cl b) := by
 have hx : ∀ x : Ex × S, endD P T H (ev P T H) f fn.results.toList σ.length = endD P T H (ev P T H) f fn.results.toList σ.length := fun _ => rfl
 rw [call_eq, body_eq]
 simp only [bodyF, bodyC, hp, hf, hc, ho, hdf, Bool.true_eq_false, if_false, if_true, bodyD, hs]
 have ht : ∀ z : Option (Out × List AObj), ((retO z).bind fun r => some (r.1, r.2.1)) = z := fun z => by cases z <;> rfl
 rw [ht]
 have he : ∀ g as, endD P T H (ev P T H) f fn.results.toList σ.length g as = endDK P T H f fn.results.toList σ.length g as := fun g as => by
  funext x; obtain ⟨e, s⟩ := x; cases e <;> rfl
 have hd : deferD P T H (ev P T H) f fn.results.toList σ.length cl b = callD1 P T H f fn.results.toList σ.length cl b := by
  funext x; obtain ⟨e, s⟩ := x
  cases e <;> try rfl
  simp only [deferD, callD1]
  cases fnArgs T s.env cl with
  | none => rfl
  | some q => obtain ⟨g, as⟩ := q; simp only [Option.bind_some, goD, he]; rfl
 rw [hd]; rfl
def dA : Code → Code
 | .seq a _ => a
 | _ => .skip
def dB : Code → Code
 | .seq _ (.seq _ b) => b
 | _ => .skip
def dO : Code → Oper
 | .seq _ (.seq (.region _ ops _) _) => ops.getD 0 default
 | _ => default
theorem call_fnD1 {f : FuncId} {fn : Func} {c : Code} (hf : P.funcs[f]? = some fn) (hc : fn.body = some c) (ho : (H f).ok = true) (hp : (H f).pr = none) (hdf : (H f).df = true) {o : Oper} {cl : Call} (hs : splitD c = some (dA c, [o], cl, dB c)) (args : List AV) (σ : List AObj) :
 call P T H (.fn f) args σ = run P T H f σ.length 0 (dA c) { env := envOf 0 args, σ := σ } (callD1 P T H f fn.results.toList σ.length cl (dB c)) := by
 rw [call_fnD hf hc ho hp hdf hs]
 congr 1
 funext x
 obtain ⟨e, s⟩ := x
 cases e <;> rfl
theorem callD1_normal (f : FuncId) (rs : List ResultVar) (base : Nat) (cl : Call) (b : Code) (s : S) : callD1 P T H f rs base cl b (.normal, s) = goD P T H f rs base b s (fnArgs T s.env cl) := rfl
theorem gdR_eq {g : FuncId} {fn : Func} {c b : Code} {d : Nat} (hf : P.funcs[g]? = some fn) (hc : fn.body = some c) (hs : splitR c = some (d, b)) {args : List AV} (hk : (H g).ok = true ∧ (H g).df = false ∧ fn.results.toList = [] ∧ d < fn.ntmps ∧ args.length ≤ d ∧ noRF b = true) (σ : List AObj) (pv : Option PV) (K : List AObj → Option R) :
 gdR P T H g args σ pv K = run P T H g σ.length 0 b { env := (d, pvA pv) :: envOf 0 args, σ := σ } (fun x => (guardEnd σ.length x).bind K) := by
 unfold gdR guardF
 simp only [hf, hc, hs, if_pos hk]
 rw [run]
 exact Option.bind_assoc ..
theorem guardEnd_normal (n : Nat) (s : S) : guardEnd n (.normal, s) = some (s.σ.take n) := rfl
theorem guardEnd_ret (n : Nat) (s : S) : guardEnd n (.ret, s) = some (s.σ.take n) := rfl
theorem endK_ret (f : FuncId) (fn : List ResultVar) (base : Nat) (e : Env) (σ : List AObj) (pv : Option PV) (rc : Bool) : endK P T H f fn base (.ret, ⟨e, σ, [], pv, rc⟩) = finish T (H f) base fn ⟨e, σ, [], pv, rc⟩ := rfl
theorem endK_normal (f : FuncId) (fn : List ResultVar) (base : Nat) (e : Env) (σ : List AObj) (pv : Option PV) (rc : Bool) : endK P T H f fn base (.normal, ⟨e, σ, [], pv, rc⟩) = finish T (H f) base fn ⟨e, σ, [], pv, rc⟩ := rfl
theorem endK_pan (f : FuncId) (fn : List ResultVar) (base : Nat) (e : Env) (σ : List AObj) (pv : Option PV) (rc : Bool) (v : PV) : endK P T H f fn base (.pan v, ⟨e, σ, [], pv, rc⟩) = some (.pan v, σ.take base) := rfl
theorem endK_cg {f : FuncId} {fn : List ResultVar} {base : Nat} {x x' : Ex × S} (h : x = x') : endK P T H f fn base x = endK P T H f fn base x' := by rw [h]
def rangeK (n : Nat) (K : Ex × S → Option R) (r : Option Rs) : Option R := (rangeEnd n r).bind K
def pendK (st : Nat) (pend : Option Code) (n : Nat) (s : S) (K : Ex × S → Option R) : Option R :=
 if st = 1 then none else
 match pend with
 | none => K (.normal, { s with σ := s.σ.take n })
 | some (.exit id) => K (.exit id, { s with σ := s.σ.take n })
 | some .ret => K (.ret, { s with σ := s.σ.take n })
 | _ => none
def atLoop (K : Nat → Option Code → Option R) : Option AObj → Option R
 | some (.loop st pend _ _ _ _ _ _) => K st pend
 | _ => none
theorem run_range (fi base blk : Nat) (f : Operand) (ps : Array Nat) (a b : Code) (s : S) (K : Ex × S → Option R) : run P T H fi base blk (.rangeFunc f ps a b) s K =
 if isYld (rd T s.env f) = true then none else rangeK s.σ.length K (callV ⟨T, H, call P T H, H fi, base⟩ { s with σ := s.σ ++ [AObj.loop 0 none (H fi).nt fi (copyEnv s.env) ps.toList a b] } none (rd T s.env f) [.yld s.σ.length]) := by
 rw [run, ev_eq]
 unfold evF
 dsimp only
 split
 ·rfl
 ·rfl
theorem rangeK_ok (n : Nat) (K : Ex × S → Option R) (s : S) : rangeK n K (some (.ok s)) = atLoop (fun st pend => pendK st pend n s K) s.σ[n]? := by
 unfold rangeK rangeEnd
 dsimp only
 cases hs : s.σ[n]? with
 | none => rfl
 | some o =>
  cases o with
  | loop st pend nt f env ps a b =>
   dsimp only [atLoop]
   unfold pendK
   split
   ·rfl
   ·cases pend with
    | none => rfl
    | some c => cases c <;> rfl
  | _ => rfl
theorem atLoop_some (K : Nat → Option Code → Option R) (st : Nat) (pend : Option Code) (nt : Nat) (f : FuncId) (env : Env) (ps : List Nat) (a b : Code) : atLoop K (some (.loop st pend nt f env ps a b)) = K st pend := rfl
theorem pendK_none (n : Nat) (s : S) (K : Ex × S → Option R) : pendK 0 none n s K = K (.normal, { s with σ := s.σ.take n }) := rfl
theorem pendK_exit (n id : Nat) (s : S) (K : Ex × S → Option R) : pendK 2 (some (.exit id)) n s K = K (.exit id, { s with σ := s.σ.take n }) := rfl
theorem pendK_ret (n : Nat) (s : S) (K : Ex × S → Option R) : pendK 2 (some .ret) n s K = K (.ret, { s with σ := s.σ.take n }) := rfl
def yldK (id n : Nat) (x : Ex × S) : Option (Out × List AObj) := (endYield id n x).bind fun r => some (r.1, r.2.1)
noncomputable def asgK (P : Program) (T : Tab) (H : FuncId → FH) (id n : Nat) (f : FuncId) (b : Code) : Ex × S → Option (Out × List AObj)
 | (.normal, s) => match setSt 0 s.σ id 1 none with
  | some σ1 => run P T H f n 0 b { s with σ := σ1 } (yldK id n)
  | none => none
 | _ => none
theorem call_yld {id : Nat} {σ : List AObj} {pend : Option Code} {nt : Nat} {f : FuncId} {env : Env} {ps : List Nat} {a b : Code} (h : σ[id]? = some (.loop 0 pend nt f env ps a b)) (hok : yldOk H f nt ps a b = true) {args : List AV} (hl : ps.length = args.length) :
 call P T H (.yld id) args σ = run P T H f σ.length 0 a { env := ps.zip (copyAs args) ++ env, σ := σ } (asgK P T H id σ.length f b) := by
 rw [call_eq, body_eq]
 unfold bodyF
 dsimp only
 rw [h]
 dsimp only
 rw [if_pos ⟨rfl, hl, hok⟩, run]
 cases ev P T H f σ.length 0 a { env := ps.zip (copyAs args) ++ env, σ := σ } with
 | none => rfl
 | some r =>
  obtain ⟨e, s⟩ := r
  cases e with
  | normal =>
   simp only [Option.bind_some, yldBody, asgK]
   cases hs : setSt 0 s.σ id 1 none with
   | none => rfl
   | some σ1 =>
    dsimp only
    unfold run
    cases ev P T H f σ.length 0 b { s with σ := σ1 } <;> rfl
  | _ => rfl
attribute [congr] run_cg ro_cg contR_cg grd_cg condK_cg seqK_cg blockK_cg loopK_cg endK_cg
end
end Go.AM
