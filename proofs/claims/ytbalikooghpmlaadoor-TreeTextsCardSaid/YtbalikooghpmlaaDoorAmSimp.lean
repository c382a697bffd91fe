/- A part of the abstract machine and its simulation. -/
import Derived.Test.YtbalikooghpmlaaDoorAmRun
import Derived.Attr
set_option linter.unusedVariables false
set_option linter.unusedSimpArgs false
namespace Go.AM
open Go
theorem cA_undef : copyA .undef = .undef := rfl
theorem cA_p (v : PV) : copyA (.p v) = .p v := rfl
theorem cA_own (sz : Nat) (r : List (List PV)) : copyA (.own sz r) = .p (.sl none sz r) := rfl
theorem cA_agg (cs : List AV) : copyA (.agg cs) = mkAgg (copyL cs) := rfl
theorem cA_tup (cs : List AV) : copyA (.tup cs) = mkTup (copyL cs) := rfl
theorem cA_asl (o : Bool) (sz : Nat) (r : List (List AV)) : copyA (.asl o sz r) = .asl false sz r := rfl
theorem cA_ap (cs : List AV) : copyA (.ap cs) = .ap cs := rfl
theorem cA_ms (a b c d e : Nat) : copyA (.ms a b c d e) = .ms a b c d e := rfl
theorem cA_ptr (a b : Nat) : copyA (.ptr a b) = .ptr a b := rfl
theorem cA_ep (a b c d : Nat) : copyA (.ep a b c d) = .ep a b c d := rfl
theorem cA_mp (a : Nat) : copyA (.mp a) = .mp a := rfl
theorem cA_fn (f : FuncId) (c : List AV) : copyA (.fn f c) = .fn f c := rfl
theorem cA_nms (a b : Nat) : copyA (.nms a b) = .nms a b := rfl
theorem cA_yld (a : Nat) : copyA (.yld a) = .yld a := rfl
theorem cA_ifc (t : TypeId) (v : AV) : copyA (.ifc t v) = .ifc t v := rfl
theorem cV_undef : copyV .undef = .undef := rfl
theorem cV_p (v : PV) : copyV (.p v) = .p v := rfl
theorem cV_own (sz : Nat) (r : List (List PV)) : copyV (.own sz r) = .p (.sl none sz r) := rfl
theorem cV_agg (cs : List AV) : copyV (.agg cs) = .agg cs := rfl
theorem cV_asl (o : Bool) (sz : Nat) (r : List (List AV)) : copyV (.asl o sz r) = .asl false sz r := rfl
theorem cV_ms (a b c d e : Nat) : copyV (.ms a b c d e) = .ms a b c d e := rfl
theorem cV_ptr (a b : Nat) : copyV (.ptr a b) = .ptr a b := rfl
theorem cV_fn (f : FuncId) (c : List AV) : copyV (.fn f c) = .fn f c := rfl
theorem cV_ap (cs : List AV) : copyV (.ap cs) = .ap cs := rfl
theorem cV_ep (a b c d : Nat) : copyV (.ep a b c d) = .ep a b c d := rfl
theorem cV_mp (a : Nat) : copyV (.mp a) = .mp a := rfl
theorem cV_nms (a b : Nat) : copyV (.nms a b) = .nms a b := rfl
theorem cV_yld (a : Nat) : copyV (.yld a) = .yld a := rfl
theorem cV_ifc (t : TypeId) (v : AV) : copyV (.ifc t v) = .ifc t v := rfl
attribute [go_sem] cA_undef cA_p cA_own cA_agg cA_tup cA_asl cA_ap cA_ms cA_ptr cA_ep cA_mp cA_fn cA_yld cA_nms cA_ifc cV_undef cV_p cV_own cV_agg cV_asl cV_ms cV_ptr cV_fn cV_ap cV_ep cV_mp cV_yld cV_nms cV_ifc
attribute [go_sem] run_skip run_scope run_label run_exit run_ret run_seq run_block run_cond run_reg ro_nil ro_cons condK_bool grd_none grd_free grd_some grd_skip udV seqK_normal seqK_exit seqK_ret seqK_pan blockK_normal blockK_exit blockK_ret blockK_pan
 loopK_normal loopK_exit loopK_ret loopK_pan contR_ok contR_pan contR_none endK_ret endK_normal endK_pan
attribute [go_sem] List.isEmpty_nil List.isEmpty_cons
attribute [go_sem] nmO nmF arrN nwO keyOf mapTy mapAt lookupV mapSet sliceE bytesV
attribute [go_sem] offOk offAt loOf soOf lookupN atK oneCell apB stepOp0 stepOp rd rdc globOf storable ofConst litOk constC constL strip S.strip shOf mvV stripM S.stripM argsV stripsM S.put putE zeroOk sizedOk get guardOf envOf putRes buildOk isLit slOf TD.conc copyR sliceOk lenOk appOk cellsOf setCells copyL ltV ltL ltR allPure mkAgg mkTup allRows mkOwn mkSl
 allocN asgN nilK pickAgg pickPure readAt writeAt idOf binInt binStr binBool tyBool binLit litP binV binA eqLit eqOpt eqThen eqFs notO stEq rowsOf prowsOf lenOf appendRows appendV fieldOf elemOf fillV fillR placeOf bnd sliceV indexAddrV fieldAddrV loadV pureArg pureArgs fullV fullP fullS nilR nilB nilL nilV nilQ nilC nilTy nilPK nilAK nilCK nilCmp endCall pickTup stripTup
 lookupL maskEnv S.mask ltEnv finN copyAs finish resultsOf resOf resL retV retC retL TD.agg? sub
attribute [go_sem] Nat.reduceBEq Nat.reduceEqDiff Nat.reduceAdd Nat.reduceSub Nat.reduceMul Nat.reduceLT Bool.false_eq_true Bool.true_eq_false not_true_eq_false not_false_eq_true and_true true_and and_self if_true if_false List.contains_nil List.contains_cons List.elem_nil List.elem_cons List.map_cons List.map_nil List.length_cons List.length_nil List.take_zero List.take_succ_cons
 List.drop_zero List.drop_succ_cons List.take_nil List.drop_nil List.nil_append List.cons_append List.append_nil List.getElem?_cons_zero List.getElem?_cons_succ List.set_cons_zero List.set_cons_succ Option.isSome_some Option.isSome_none Option.map_some Option.map_none Option.getD_some
 beq_self_eq_true BEq.rfl Bool.and_true Bool.true_and Bool.and_self decide_true decide_false Option.bind_some Option.bind_none Nat.zero_add Nat.add_zero Bool.not_true Bool.not_false Nat.lt_add_one Int.toNat_natCast List.mapM_cons List.mapM_nil List.isEmpty_toArray List.isEmpty_nil List.isEmpty_cons List.replicate_zero List.replicate_succ List.toList_toArray
 decide_eq_true_eq Nat.le_refl Nat.reduceLeDiff Bool.or_true Bool.true_or Bool.or_self Bool.or_false Bool.false_or Bool.and_false Bool.false_and ge_iff_le Nat.zero_le gt_iff_lt
attribute [go_sem] Int.reduceBNe Int.reduceBEq Int.reduceLT Int.reduceLE Int.reduceGT Int.reduceGE Int.reduceEq Int.reduceAdd Int.reduceSub Int.reduceMul Int.reduceNeg Int.reduceToNat Nat.reduceBNe
def callR (s : S) (d : Option Nat) : Option (Out × List AObj) → Option Rs
 | some (o, σ) => some (endCall s d σ o)
 | none => none
def callP (s : S) (d : Option Nat) : Option (Out × List AObj) → Option Rs
 | some (o, _) => some (endCall s d s.σ o)
 | none => none
noncomputable def callD (s : S) (d : Option Nat) : Option (Out × List AObj) → Option Rs
 | some (o, σ) => if rdOk true s.σ σ = true then some (endCall s d σ o) else none
 | none => none
theorem callD_some (s : S) (d : Option Nat) (o : Out) (σ : List AObj) : callD s d (some (o, σ)) = if rdOk true s.σ σ = true then some (endCall s d σ o) else none := rfl
theorem callR_some (s : S) (d : Option Nat) (o : Out) (σ : List AObj) : callR s d (some (o, σ)) = some (endCall s d σ o) := rfl
theorem callP_some (s : S) (d : Option Nat) (o : Out) (σ : List AObj) : callP s d (some (o, σ)) = some (endCall s d s.σ o) := rfl
theorem callV_p (c : Cx) (s : S) (d : Option Nat) (f : FuncId) (args : List AV) : callV c s d (.p (.fn f)) args = if (c.H f).pu = true then (if pureArgs args = true then callP s d (c.C (.fn f) args []) else none) else if (c.H f).rm = true then rmRun ((c.H f).rc && (frOf c.h d).isNone) c.C s d f args else if (c.H f).rd = true then callD s d (c.C (.fn f) args s.σ) else callR s d (c.C (.fn f) args s.σ) := by
 unfold callV
 dsimp only
 split
 ·split
  ·cases c.C (.fn f) args [] <;> rfl
  ·rfl
 split
 ·rfl
 ·cases hr : (c.H f).rd with
  | true => rw [if_pos rfl]; cases c.C (.fn f) args s.σ <;> rfl
  | false => rw [if_neg (by decide)]; cases c.C (.fn f) args s.σ <;> rfl
theorem callV_f (c : Cx) (s : S) (d : Option Nat) (f : FuncId) (cap args : List AV) : callV c s d (.fn f cap) args = callR s d (c.C (.fn f) (args ++ cap) s.σ) := by
 unfold callV
 dsimp only
 cases c.C (.fn f) (args ++ cap) s.σ <;> rfl
theorem callV_y (c : Cx) (s : S) (d : Option Nat) (id : Nat) (args : List AV) : callV c s d (.yld id) args = callR s d (c.C (.yld id) args s.σ) := by
 unfold callV
 dsimp only
 cases c.C (.yld id) args s.σ <;> rfl
def frX (id : Nat) (C : CallF) (cal : Cal) (args : List AV) (σ : List AObj) : Option AObj → Option (Out × List AObj)
 | some (.cells cs) => frEnd id (.cells cs) (C cal args (σ.set id .hid))
 | _ => none
def frY (id : Nat) (ob : AObj) (o : Out) (σ : List AObj) : Option AObj → Option (Out × List AObj)
 | some .hid => some (o, σ.set id ob)
 | _ => none
theorem frC_ap (id : Nat) (C : CallF) (cal : Cal) (args : List AV) (σ : List AObj) : frC id C cal args σ = frX id C cal args σ σ[id]? := by
 unfold frC
 generalize σ[id]? = x
 cases x with
 | none => rfl
 | some ob => cases ob <;> rfl
theorem frX_c (id : Nat) (C : CallF) (cal : Cal) (args : List AV) (σ : List AObj) (cs : List AV) : frX id C cal args σ (some (.cells cs)) = frEnd id (.cells cs) (C cal args (σ.set id .hid)) := rfl
theorem frEnd_some (id : Nat) (ob : AObj) (o : Out) (σ : List AObj) : frEnd id ob (some (o, σ)) = frY id ob o σ σ[id]? := by
 unfold frEnd
 dsimp only
 generalize σ[id]? = x
 cases x with
 | none => rfl
 | some ob => cases ob <;> rfl
theorem frY_h (id : Nat) (ob : AObj) (o : Out) (σ : List AObj) : frY id ob o σ (some .hid) = some (o, σ.set id ob) := rfl
theorem fnArgs_f (T : Tab) (env : Env) (f : FuncId) (args : Array Operand) (ats : Array TypeId) : fnArgs T env ⟨.value (.func f), args, ats⟩ = some (f, args.toList.map (fun x => rdc T env x)) := rfl
def fnArgsV (args : List AV) : AV → Option (FuncId × List AV)
 | .p (.fn g) => some (g, args)
 | .fn g cap => some (g, args ++ cap)
 | _ => none
theorem fnArgs_v (T : Tab) (env : Env) (f : Operand) (args : Array Operand) (ats : Array TypeId) : fnArgs T env ⟨.value f, args, ats⟩ = fnArgsV (args.toList.map (fun x => rdc T env x)) (rd T env f) := by
 unfold fnArgs
 dsimp only
 cases rd T env f with
 | p v => cases v <;> rfl
 | _ => rfl
attribute [go_sem] fnArgs_f fnArgs_v fnArgsV callD1_normal goD_some endDK_normal endDK_ret endDK_pan guardEnd_normal guardEnd_ret assertV
def drX (base : Nat) : Option Nat → DR
 | some k => .cut (frId base k)
 | none => .bad
theorem drX_some (base k : Nat) : drX base (some k) = .cut (frId base k) := rfl
theorem drOf_f (h : FH) (base id : Nat) : drOf h base id false = .no := rfl
theorem drOf_t (h : FH) (base id : Nat) : drOf h base id true = drX base (lookupN h.dp id) := by
 unfold drOf drX
 rw [if_pos rfl]
 cases lookupN h.dp id <;> rfl
theorem exPan_no (v : PV) (s : S) : exPan v s .no = some (.pan v, s) := rfl
theorem exPan_cut (v : PV) (s : S) (n : Nat) : exPan v s (.cut n) = some (.pan v, { s with env := [], σ := s.σ.set n .hid }) := rfl
attribute [go_sem] drX_some drOf_f drOf_t exPan_no exPan_cut Option.bind_some
attribute [go_sem] frOf frK lmOf lmAt Cx.frm frId frC_ap frX_c frEnd_some frY_h Nat.reduceSubDiff
attribute [go_sem] callR_some callD_some rdOk_self rdOk_f callP_some callV_p callV_f callV_y
theorem bV_agg (cs : List AV) : bV (.agg cs) = .agg cs := rfl
theorem bV_p (v : PV) : bV (.p v) = bP v := rfl
theorem bP_lit (v : Value) : bP (.lit v) = .p (.lit v) := rfl
theorem bP_agg (v : List PV) : bP (.agg v) = .p (.agg v) := rfl
theorem bP_pp (v : List PV) : bP (.pp v) = .p (.pp v) := rfl
theorem bP_fn (f : FuncId) : bP (.fn f) = .p (.fn f) := rfl
theorem bP_sln (sz : Nat) (rows : List (List PV)) : bP (.sl none sz rows) = .p (.sl none sz rows) := rfl
theorem bP_slf (sz : Nat) (rows : List (List PV)) : bP (.sl (some false) sz rows) = .own sz rows := rfl
theorem bP_slt (sz : Nat) (rows : List (List PV)) : bP (.sl (some true) sz rows) = .p (.sl (some true) sz rows) := rfl
theorem bV_own (k : Nat) (r : List (List PV)) : bV (.own k r) = copyA (.own k r) := rfl
theorem bV_ms (a b c d e : Nat) : bV (.ms a b c d e) = copyA (.ms a b c d e) := rfl
theorem bV_ptr (a b : Nat) : bV (.ptr a b) = copyA (.ptr a b) := rfl
theorem bV_fn (f : FuncId) (c : List AV) : bV (.fn f c) = copyA (.fn f c) := rfl
theorem bV_nms (a b : Nat) : bV (.nms a b) = copyA (.nms a b) := rfl
theorem bV_mp (a : Nat) : bV (.mp a) = copyA (.mp a) := rfl
theorem rmEnd_some (s : S) (d : Option Nat) (ob : AObj) (o : Out) (σ1 : List AObj) : rmEnd s d ob (some (o, σ1)) = if rdOk true [ob] σ1 = true ∧ ltO o = true then some (endCall s d s.σ o) else none := rfl
theorem rmEnd0_some (s : S) (d : Option Nat) (o : Out) (σ1 : List AObj) : rmEnd0 s d (some (o, σ1)) = if ltO o = true then some (endCall s d s.σ o) else none := rfl
theorem rmOb_arr (rc : Bool) (g sz : Nat) (rows : List (List AV)) : rmOb rc (.arr g sz rows) = ltR 0 rows := rfl
theorem rmOb_cells (rc : Bool) (cs : List AV) : rmOb rc (.cells cs) = (rc && ltL 0 cs) := rfl
attribute [go_sem] rmEnd0_some rmEnd_some rmRun rmId rmArg rmArgs ltO rmOb_arr rmOb_cells frOf
attribute [go_sem] bP_lit bP_agg bP_pp bP_fn bP_sln bP_slf bP_slt flV nlS rdB bV_agg bV_p bV_own bV_ms bV_ptr bV_fn bV_nms bV_mp zAF fzO frzV frzR
attribute [go_sem] binSh opOf nilO nilX nilF unown nilT nilP nilS nilTs zA roV cutS Int.natCast_nonneg
theorem map_app {α β : Type} (f : α → β) (a b : List α) : a.map f ++ b.map f = (a ++ b).map f := List.map_append.symm
theorem map_tk {α β : Type} (f : α → β) (n : Nat) (a : List α) : (a.map f).take n = (a.take n).map f := List.map_take.symm
theorem map_dr {α β : Type} (f : α → β) (n : Nat) (a : List α) : (a.map f).drop n = (a.drop n).map f := List.map_drop.symm
attribute [go_sem] map_app map_tk map_dr List.getElem?_map List.length_map List.length_append
attribute [go_sem] run_range rangeK_ok atLoop_some pendK_none pendK_exit pendK_ret isYld copyEnv List.zip_nil_left List.zip_cons_cons
attribute [go_sem ↓] reduceIte
end Go.AM
