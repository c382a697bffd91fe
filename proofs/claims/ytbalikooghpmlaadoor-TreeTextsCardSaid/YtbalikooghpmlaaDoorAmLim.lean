/- A part of the abstract machine and its simulation. -/
import Derived.Test.YtbalikooghpmlaaDoorAmCore
set_option linter.unusedVariables false
set_option linter.unusedSimpArgs false
namespace Go.AM
open Go
def Le {α : Type} (a b : Option α) : Prop := ∀ r, a = some r → b = some r
theorem Le.refl {α : Type} (a : Option α) : Le a a := fun _ h => h
theorem Le.none {α : Type} (b : Option α) : Le Option.none b := fun _ h => by cases h
theorem Le.trans {α : Type} {a b c : Option α} (h : Le a b) (k : Le b c) : Le a c := fun r hr => k r (h r hr)
theorem Le.bind {α β : Type} {a a' : Option α} {f f' : α → Option β} (h : Le a a') (k : ∀ x, Le (f x) (f' x)) : Le (a.bind f) (a'.bind f') := by
 intro r hr
 cases a with
 | none => cases hr
 | some x => rw [h x rfl]; exact k x r hr
noncomputable def lim {α : Type} (g : Nat → Option α) : Option α :=
 open Classical in if h : ∃ k r, g k = some r then some (Classical.choose (Classical.choose_spec h)) else none
def Mono {α : Type} (g : Nat → Option α) : Prop := ∀ k, Le (g k) (g (k + 1))
theorem Mono.le {α : Type} {g : Nat → Option α} (h : Mono g) (k : Nat) : ∀ j, Le (g k) (g (k + j))
 | 0 => Le.refl _
 | j + 1 => (h.le k j).trans (h (k + j))
theorem Mono.at {α : Type} {g : Nat → Option α} (h : Mono g) {k m : Nat} (hk : k ≤ m) : Le (g k) (g m) := by
 have := h.le k (m - k); rwa [Nat.add_sub_cancel' hk] at this
theorem lim_some {α : Type} {g : Nat → Option α} (h : Mono g) (r : α) : lim g = some r ↔ ∃ k, g k = some r := by
 unfold lim
 constructor
 ·intro hr
  split at hr
  ·rename_i hx
   injection hr with hr
   exact ⟨_, by rw [← hr]; exact Classical.choose_spec (Classical.choose_spec hx)⟩
  ·cases hr
 ·rintro ⟨k, hk⟩
  have hx : ∃ k r, g k = some r := ⟨k, r, hk⟩
  rw [dif_pos hx]
  have h1 := Classical.choose_spec (Classical.choose_spec hx)
  generalize Classical.choose (Classical.choose_spec hx) = r' at h1 ⊢
  have h2 := h.at (Nat.le_max_left k (Classical.choose hx)) r hk
  have h3 := h.at (Nat.le_max_right k (Classical.choose hx)) r' h1
  rw [h2] at h3
  injection h3 with h3
  rw [h3]
theorem opt_ext {α : Type} {a b : Option α} (h : ∀ r, a = some r ↔ b = some r) : a = b := by
 cases a with
 | none => cases b with
  | none => rfl
  | some y => exact absurd ((h y).2 rfl) (by simp)
 | some x => exact ((h x).1 rfl).symm
def LeC (C D : CallF) : Prop := ∀ cal args σ, Le (C cal args σ) (D cal args σ)
def Asks (F : CallF → Option Rs) : Prop :=
 (∀ C D, F C = F D) ∨ ∃ cal args σ g, ∀ C, F C = (C cal args σ).bind g
theorem Asks.mono {F : CallF → Option Rs} (h : Asks F) {C D : CallF} (hCD : LeC C D) : Le (F C) (F D) := by
 rcases h with h | ⟨cal, args, σ, g, h⟩
 ·rw [h C D]; exact Le.refl _
 ·rw [h, h]; exact Le.bind (hCD _ _ _) (fun _ => Le.refl _)
theorem callV_asks (c : Cx) (s : S) (d : Option Nat) (f : AV) (args : List AV) : Asks (fun C => callV ⟨c.T, c.H, C, c.h, c.base⟩ s d f args) := by
 cases f with
 | p v =>
  cases v with
  | fn f =>
   by_cases hp : (c.H f).pu = true
   ·by_cases ha : pureArgs args = true
    ·exact .inr ⟨.fn f, args, [], fun x => some (endCall s d s.σ x.1), fun C => by cases h : C (.fn f) args [] <;> simp [callV, hp, ha, h]⟩
    ·exact .inl fun _ _ => by simp [callV, hp, ha]
   ·by_cases hm : (c.H f).rm = true
    ·cases hi : rmId args with
     | none =>
      cases ha : rmArgs 0 args with
      | none => exact .inl fun _ _ => by simp [callV, hp, hm, rmRun, hi, ha]
      | some args' =>
       by_cases hq : pureArgs args' = true
       ·exact .inr ⟨.fn f, args', [], fun x => rmEnd0 s d (some x), fun C => by cases h : C (.fn f) args' [] <;> simp [callV, hp, hm, rmRun, hi, ha, hq, h, rmEnd0]⟩
       ·exact .inl fun _ _ => by simp [callV, hp, hm, rmRun, hi, ha, hq]
     | some id =>
      cases ha : rmArgs id args with
      | none => exact .inl fun _ _ => by simp [callV, hp, hm, rmRun, hi, ha]
      | some args' =>
       cases ho : s.σ[id]? with
       | none => exact .inl fun _ _ => by simp [callV, hp, hm, rmRun, hi, ha, ho]
       | some ob =>
        by_cases hl : rmOb ((c.H f).rc && (frOf c.h d).isNone) ob = true
        ·exact .inr ⟨.fn f, args', [ob], fun x => rmEnd s d ob (some x), fun C => by cases h : C (.fn f) args' [ob] <;> simp [callV, hp, hm, rmRun, hi, ha, ho, hl, h, rmEnd]⟩
        ·exact .inl fun _ _ => by simp [callV, hp, hm, rmRun, hi, ha, ho, hl]
    exact .inr ⟨.fn f, args, s.σ, fun x => if rdOk (c.H f).rd s.σ x.2 = true then some (endCall s d x.2 x.1) else none, fun C => by cases h : C (.fn f) args s.σ <;> simp [callV, hp, hm, h]⟩
  | _ => exact .inl fun _ _ => rfl
 | fn f cap =>
  exact .inr ⟨.fn f, args ++ cap, s.σ, fun x => some (endCall s d x.2 x.1), fun C => by cases h : C (.fn f) (args ++ cap) s.σ <;> simp [callV, h]⟩
 | yld id =>
  exact .inr ⟨.yld id, args, s.σ, fun x => some (endCall s d x.2 x.1), fun C => by cases h : C (.yld id) args s.σ <;> simp [callV, h]⟩
 | _ => exact .inl fun _ _ => rfl
theorem stepOp0_asks (c : Cx) (o : Oper) (s : S) : Asks (fun C => stepOp0 { c with C := C } o s) := by
 obtain ⟨dst, op, type, pos, after, guard⟩ := o
 cases op with
 | call cl =>
  obtain ⟨callee, args, ats⟩ := cl
  cases callee with
  | value f =>
   have h := callV_asks c { s with env := stripsM c.h s.env args.toList } dst (rd c.T s.env f) (nilTs c.T (opOf c.H (rd c.T s.env f)) 0 ats.toList args.toList (argsV c.T c.h s.env args.toList))
   exact h
  | invoke r m => exact .inl fun _ _ => rfl
  | builtin b => cases b <;> exact .inl fun _ _ => rfl
 | makeFunc fn first cap => cases fn <;> exact .inl fun _ _ => rfl
 | _ => exact .inl fun _ _ => rfl
theorem Asks.frK {F : CallF → Option Rs} (h : Asks F) (k : Option Nat) (base : Nat) : Asks (fun C => F (frK k base C)) := by
 rcases h with h | ⟨cal, args, σ, g, h⟩
 ·exact .inl fun _ _ => h _ _
 ·cases k with
  | none => exact .inr ⟨cal, args, σ, g, fun C => h C⟩
  | some k =>
   by_cases hc : ∃ cs, σ[frId base k]? = some (.cells cs)
   ·obtain ⟨cs, hc⟩ := hc
    refine .inr ⟨cal, args, σ.set (frId base k) .hid, fun r => (frEnd (frId base k) (.cells cs) (some r)).bind g, fun C => ?_⟩
    dsimp only
    rw [h]
    show (frC (frId base k) C cal args σ).bind g = _
    unfold frC
    rw [hc]
    dsimp only
    cases C cal args (σ.set (frId base k) .hid) <;> rfl
   ·refine .inl fun C D => ?_
    dsimp only
    have e : ∀ C : CallF, frC (frId base k) C cal args σ = none := fun C => by
     unfold frC
     split
     ·exact absurd ⟨_, ‹_›⟩ hc
     ·rfl
    show F (frC (frId base k) C) = F (frC (frId base k) D)
    rw [h, h, e, e]
theorem stepOp_asks (c : Cx) (o : Oper) (s : S) : Asks (fun C => stepOp { c with C := C } o s) := by
 by_cases h : offOk c o s = true
 ·have e : (fun C => stepOp { c with C := C } o s) = fun C => stepOp0 { c with C := AM.frK (frOf c.h o.dst) c.base C } o s := by
   funext C
   exact if_pos h
  rw [e]; exact (stepOp0_asks c o s).frK (frOf c.h o.dst) c.base
 ·exact .inl fun C D => by
   have e : ∀ C, stepOp { c with C := C } o s = none := fun C => if_neg h
   show stepOp { c with C := C } o s = stepOp { c with C := D } o s
   rw [e, e]
theorem Le.thenR {K K' : S → Option Rs} (hK : ∀ s, Le (K s) (K' s)) {a b : Option Rs} (h : Le a b) : Le (thenR K a) (thenR K' b) := by
 intro r hr
 cases a with
 | none => cases hr
 | some x =>
  rw [h x rfl]
  cases x <;> first | exact hK _ r hr | exact hr
theorem stepOps_mono {c : Cx} {D : CallF} (h : LeC c.C D) (all : List Oper) : ∀ (ops : List Oper) (s : S), Le (stepOps c all ops s) (stepOps ⟨c.T, c.H, D, c.h, c.base⟩ all ops s)
 | [], _ => Le.refl _
 | o :: os, s => by
  unfold stepOps
  split
  ·exact Le.refl _
  ·exact Le.thenR (stepOps_mono h all os) ((stepOp_asks c o s).mono h)
  ·split
   ·exact Le.thenR (stepOps_mono h all os) ((stepOp_asks c o _).mono h)
   ·exact stepOps_mono h all os _
theorem callV_mono {c : Cx} {D : CallF} (h : LeC c.C D) (s : S) (d : Option Nat) (f : AV) (args : List AV) : Le (callV c s d f args) (callV ⟨c.T, c.H, D, c.h, c.base⟩ s d f args) :=
 (callV_asks c s d f args).mono h
section
variable {T : Tab} {H : FuncId → FH}
def LeE (E E' : EvT) : Prop := ∀ fi base blk c s, Le (E fi base blk c s) (E' fi base blk c s)
def LeB (B B' : BodyT) : Prop := ∀ cal args σ pv, Le (B cal args σ pv) (B' cal args σ pv)
def LeD (D D' : DfsT) : Prop := ∀ pv s, Le (D pv s) (D' pv s)
theorem Le.cutX {blk : Nat} {outs : Option (List Nat)} {n : Nat} {F G : Option (Ex × S)} (h : Le F G) : Le (cutX blk outs n F) (cutX blk outs n G) := by
 intro r hr
 cases F with
 | none => cases hr
 | some x => rw [h x rfl]; exact hr
theorem Le.thenS {K K' : S → Option (Ex × S)} (hK : ∀ s, Le (K s) (K' s)) {a b : Option (Ex × S)} (h : Le a b) : Le (thenS K a) (thenS K' b) := by
 intro r hr
 cases a with
 | none => cases hr
 | some x =>
  rw [h x rfl]
  obtain ⟨e, s⟩ := x
  cases e <;> first | exact hK s r hr | exact hr
theorem Le.blockEx {id : Nat} {o : Option (List Nat)} {a b : Option (Ex × S)} (h : Le a b) : Le (blockEx id o a) (blockEx id o b) := by
 intro r hr
 cases a with
 | none => cases hr
 | some x => rw [h x rfl]; exact hr
theorem Le.exOf {d : DR} {a b : Option Rs} (h : Le a b) : Le (exOf d a) (exOf d b) := by
 intro r hr
 cases a with
 | none => cases hr
 | some x => rw [h x rfl]; exact hr
theorem Le.endBody {h' : FH} {n : Nat} {fn : List ResultVar} {a b : Option (Option PV × S)} (h : Le a b) : Le (endBody T h' n fn a) (endBody T h' n fn b) := by
 intro r hr
 cases a with
 | none => cases hr
 | some x => rw [h x rfl]; exact hr
theorem Le.rangeEnd {n : Nat} {a b : Option Rs} (h : Le a b) : Le (rangeEnd n a) (rangeEnd n b) := by
 intro r hr
 cases a with
 | none => cases hr
 | some x => rw [h x rfl]; exact hr
theorem evF_mono {E E' : EvT} {C C' : CallF} (hE : LeE E E') (hC : LeC C C') : LeE (evF T H E C) (evF T H E' C') := by
 intro fi base blk c s
 cases c <;> unfold evF <;> dsimp only
 case region id ops draw => exact Le.exOf (stepOps_mono (c := ⟨T, H, C, H fi, base⟩) hC _ _ _)
 case seq a b => exact Le.thenS (hE _ _ _ _) (hE _ _ _ _ _)
 case cond x a b =>
  split
  ·split <;> exact hE _ _ _ _ _
  ·exact Le.refl _
 case block id b => exact Le.blockEx (hE _ _ _ _ _)
 case scope b => exact hE _ _ _ _ _
 case loop b =>
  split
  ·exact Le.thenS (fun s' => Le.bind (Le.refl _) (hE _ _ _ _)) (Le.cutX (hE _ _ _ _ _))
  ·exact Le.thenS (hE _ _ _ _) (hE _ _ _ _ _)
 case rangeFunc f ps a b =>
  split
  ·exact Le.refl _
  ·exact Le.rangeEnd (callV_mono (c := ⟨T, H, C, H fi, base⟩) hC _ _ _ _)
 all_goals exact Le.refl _
theorem yldBody_mono {E E' : EvT} (hE : LeE E E') (id n : Nat) (f : FuncId) (b : Code) (x : Ex × S) : Le (yldBody E id n f b x) (yldBody E' id n f b x) := by
 obtain ⟨e, s⟩ := x
 cases e <;> unfold yldBody <;> dsimp only
 case normal =>
  split
  ·exact Le.bind (hE _ _ _ _ _) fun _ => Le.refl _
  ·exact Le.refl _
 all_goals exact Le.refl _
theorem guardF_mono {P : Program} {E E' : EvT} (hE : LeE E E') (g : FuncId) (args : List AV) (σ : List AObj) (pv : Option PV) : Le (guardF P H E g args σ pv) (guardF P H E' g args σ pv) := by
 unfold guardF
 split
 ·split
  ·split
   ·split
    ·exact Le.bind (hE _ _ _ _ _) fun _ => Le.refl _
    ·exact Le.refl _
   ·exact Le.refl _
  ·exact Le.refl _
 ·exact Le.refl _
theorem endD_mono {P : Program} {E E' : EvT} (hE : LeE E E') (f : FuncId) (rs : List ResultVar) (base : Nat) (g : FuncId) (args : List AV) (x : Ex × S) : Le (endD P T H E f rs base g args x) (endD P T H E' f rs base g args x) := by
 obtain ⟨e, s⟩ := x
 cases e <;> unfold endD <;> dsimp only
 case exit => exact Le.refl _
 all_goals exact Le.bind (guardF_mono hE _ _ _ _) fun _ => Le.refl _
theorem deferD_mono {P : Program} {E E' : EvT} (hE : LeE E E') (f : FuncId) (rs : List ResultVar) (base : Nat) (cl : Call) (b : Code) (x : Ex × S) : Le (deferD P T H E f rs base cl b x) (deferD P T H E' f rs base cl b x) := by
 obtain ⟨e, s⟩ := x
 cases e <;> unfold deferD <;> dsimp only
 case normal => exact Le.bind (Le.refl _) fun q => Le.bind (hE _ _ _ _ _) fun r => endD_mono hE _ _ _ _ _ _
 all_goals exact Le.refl _
theorem Le.retO {a b : Option (Out × List AObj)} (h : Le a b) : Le (retO a) (retO b) := by
 intro r hr
 cases a with
 | none => cases hr
 | some x => rw [h x rfl]; exact hr
theorem bodyD_mono {P : Program} {E E' : EvT} (hE : LeE E E') (f : FuncId) (rs : List ResultVar) (c : Code) (args : List AV) (σ : List AObj) : Le (bodyD P T H E f rs c args σ) (bodyD P T H E' f rs c args σ) := by
 unfold bodyD
 split
 ·exact Le.retO (Le.bind (hE _ _ _ _ _) fun r => Le.bind (Le.refl _) fun q => deferD_mono hE _ _ _ _ _ _)
 ·exact Le.refl _
theorem bodyF_mono {P : Program} {E E' : EvT} {D D' : DfsT} (hE : LeE E E') (hD : LeD D D') : LeB (bodyF P T H E D) (bodyF P T H E' D') := by
 intro cal args σ pv
 cases cal <;> unfold bodyF <;> dsimp only
 case fn f =>
  split
  ·exact Le.refl _
  unfold bodyC
  split
  ·split
   ·split
    ·exact Le.refl _
    ·split
     ·exact bodyD_mono hE _ _ _ _ _
     ·exact Le.bind (hE _ _ _ _ _) fun r => Le.bind (Le.refl _) fun q => Le.endBody (hD _ _)
   ·exact Le.refl _
  ·exact Le.refl _
 case yld id =>
  split
  ·split
   ·exact Le.bind (hE _ _ _ _ _) fun _ => yldBody_mono hE _ _ _ _ _
   ·exact Le.refl _
  ·exact Le.refl _
theorem dfsF_mono {B B' : BodyT} {D D' : DfsT} (hB : LeB B B') (hD : LeD D D') : LeD (dfsF B D) (dfsF B' D') := by
 intro pv s
 unfold dfsF
 split
 ·exact Le.refl _
 ·exact Le.refl _
end
section
variable (P : Program) (T : Tab) (H : FuncId → FH)
structure AllMono (k : Nat) : Prop where
 ev : LeE (evC P T H k) (evC P T H (k + 1))
 call : LeC (callK P T H k) (callK P T H (k + 1))
 body : LeB (bodyK P T H k) (bodyK P T H (k + 1))
 dfs : LeD (dfsK P T H k) (dfsK P T H (k + 1))
theorem allMono : ∀ k, AllMono P T H k
 | 0 => ⟨fun _ _ _ _ _ => by rw [evC]; exact Le.none _, fun _ _ _ => by rw [callK]; exact Le.none _, fun _ _ _ _ => by rw [bodyK]; exact Le.none _, fun _ _ => by rw [dfsK]; exact Le.none _⟩
 | k + 1 => by
  have ih := allMono k
  refine ⟨?_, ?_, ?_, ?_⟩
  ·rw [evC, evC]; exact evF_mono ih.ev ih.call
  ·rw [callK, callK]; exact fun _ _ _ => Le.bind (ih.body _ _ _ _) fun _ => Le.refl _
  ·rw [bodyK, bodyK]; exact bodyF_mono ih.ev ih.dfs
  ·rw [dfsK, dfsK]; exact dfsF_mono ih.body ih.dfs
noncomputable def call : CallF := fun cal args σ => lim fun k => callK P T H k cal args σ
noncomputable def ev : EvT := fun fi base blk c s => lim fun k => evC P T H k fi base blk c s
noncomputable def dfsL : DfsT := fun pv s => lim fun k => dfsK P T H k pv s
noncomputable def bodyL : BodyT := fun cal args σ pv => lim fun k => bodyK P T H k cal args σ pv
variable {P T H}
theorem ev_some {fi base blk : Nat} {c : Code} {s : S} {r : Ex × S} : ev P T H fi base blk c s = some r ↔ ∃ k, evC P T H k fi base blk c s = some r := lim_some (fun k => (allMono P T H k).ev _ _ _ _ _) r
theorem call_some {cal : Cal} {args : List AV} {σ : List AObj} {r : Out × List AObj} : call P T H cal args σ = some r ↔ ∃ k, callK P T H k cal args σ = some r := lim_some (fun k => (allMono P T H k).call _ _ _) r
theorem body_some {cal : Cal} {args : List AV} {σ : List AObj} {pv : Option PV} {r : Out × List AObj × Bool} : bodyL P T H cal args σ pv = some r ↔ ∃ k, bodyK P T H k cal args σ pv = some r := lim_some (fun k => (allMono P T H k).body _ _ _ _) r
theorem dfs_some {pv : Option PV} {s : S} {r : Option PV × S} : dfsL P T H pv s = some r ↔ ∃ k, dfsK P T H k pv s = some r := lim_some (fun k => (allMono P T H k).dfs _ _) r
theorem ev_le (k : Nat) : LeE (evC P T H k) (ev P T H) := fun _ _ _ _ _ r h => ev_some.2 ⟨k, h⟩
theorem call_le (k : Nat) : LeC (callK P T H k) (call P T H) := fun _ _ _ r h => call_some.2 ⟨k, h⟩
theorem body_le (k : Nat) : LeB (bodyK P T H k) (bodyL P T H) := fun _ _ _ _ r h => body_some.2 ⟨k, h⟩
theorem dfs_le (k : Nat) : LeD (dfsK P T H k) (dfsL P T H) := fun _ _ r h => dfs_some.2 ⟨k, h⟩
def Comp {α : Type} (F : Nat → Option α) (G : Option α) : Prop := ∀ r, G = some r → ∃ k, F k = some r
theorem Comp.const {α : Type} (a : Option α) : Comp (fun _ => a) a := fun _ h => ⟨0, h⟩
theorem Comp.bind {α β : Type} {F : Nat → Option α} {G : Option α} {f : Nat → α → Option β} {g : α → Option β} (hF : Comp F G) (mF : Mono F) (hf : ∀ x, Comp (fun k => f k x) (g x)) (mf : ∀ x, Mono fun k => f k x) :
 Comp (fun k => (F k).bind (f k)) (G.bind g) := by
 intro r hr
 cases hG : G with
 | none => rw [hG] at hr; cases hr
 | some x =>
  rw [hG] at hr
  obtain ⟨k1, h1⟩ := hF x hG
  obtain ⟨k2, h2⟩ := hf x r hr
  refine ⟨max k1 k2, ?_⟩
  show (F (max k1 k2)).bind (f (max k1 k2)) = some r
  rw [mF.at (Nat.le_max_left _ _) _ h1]
  exact (mf x).at (Nat.le_max_right _ _) _ h2
theorem ev_comp (fi base blk : Nat) (c : Code) (s : S) : Comp (fun k => evC P T H k fi base blk c s) (ev P T H fi base blk c s) := fun _ h => ev_some.1 h
theorem ev_mono (fi base blk : Nat) (c : Code) (s : S) : Mono (fun k => evC P T H k fi base blk c s) := fun k => (allMono P T H k).ev _ _ _ _ _
theorem dfs_mono (pv : Option PV) (s : S) : Mono (fun k => dfsK P T H k pv s) := fun k => (allMono P T H k).dfs _ _
theorem Asks.comp {F : CallF → Option Rs} (h : Asks F) : Comp (fun k => F (callK P T H k)) (F (call P T H)) := by
 intro r hr
 rcases h with h | ⟨cal, args, σ, g, h⟩
 ·exact ⟨0, by show F _ = _; rw [h _ (call P T H)]; exact hr⟩
 ·rw [h] at hr
  cases hc : call P T H cal args σ with
  | none => rw [hc] at hr; cases hr
  | some x =>
   rw [hc] at hr
   obtain ⟨k, hk⟩ := call_some.1 hc
   exact ⟨k, by show F _ = _; rw [h, hk]; exact hr⟩
theorem Comp.thenR {K : Nat → S → Option Rs} {L : S → Option Rs} {F : Nat → Option Rs} {G : Option Rs} (hF : Comp F G) (mF : Mono F) (hK : ∀ s, Comp (fun k => K k s) (L s)) (mK : ∀ s, Mono fun k => K k s) :
 Comp (fun k => thenR (K k) (F k)) (thenR L G) := by
 intro r hr
 cases hG : G with
 | none => rw [hG] at hr; cases hr
 | some x =>
  rw [hG] at hr
  obtain ⟨k1, h1⟩ := hF x hG
  cases x with
  | ok s =>
   obtain ⟨k2, h2⟩ := hK s r hr
   refine ⟨max k1 k2, ?_⟩
   show AM.thenR (K (max k1 k2)) (F (max k1 k2)) = some r
   rw [mF.at (Nat.le_max_left _ _) _ h1]
   exact (mK s).at (Nat.le_max_right _ _) _ h2
  | pan v s => exact ⟨k1, by show AM.thenR (K k1) (F k1) = some r; rw [h1]; exact hr⟩
theorem Comp.thenS {K : Nat → S → Option (Ex × S)} {L : S → Option (Ex × S)} {F : Nat → Option (Ex × S)} {G : Option (Ex × S)} (hF : Comp F G) (mF : Mono F) (hK : ∀ s, Comp (fun k => K k s) (L s)) (mK : ∀ s, Mono fun k => K k s) :
 Comp (fun k => thenS (K k) (F k)) (thenS L G) := by
 intro r hr
 cases hG : G with
 | none => rw [hG] at hr; cases hr
 | some x =>
  rw [hG] at hr
  obtain ⟨k1, h1⟩ := hF x hG
  obtain ⟨e, s⟩ := x
  cases e with
  | normal =>
   obtain ⟨k2, h2⟩ := hK s r hr
   refine ⟨max k1 k2, ?_⟩
   show AM.thenS (K (max k1 k2)) (F (max k1 k2)) = some r
   rw [mF.at (Nat.le_max_left _ _) _ h1]
   exact (mK s).at (Nat.le_max_right _ _) _ h2
  | _ => exact ⟨k1, by show AM.thenS (K k1) (F k1) = some r; rw [h1]; exact hr⟩
theorem Comp.map1 {α β : Type} {F : Nat → Option α} {G : Option α} (f : Option α → Option β) (f0 : f none = none) (hF : Comp F G) : Comp (fun k => f (F k)) (f G) := by
 intro r hr
 cases hG : G with
 | none => rw [hG, f0] at hr; cases hr
 | some x =>
  rw [hG] at hr
  obtain ⟨k1, h1⟩ := hF x hG
  exact ⟨k1, by show f (F k1) = some r; rw [h1]; exact hr⟩
theorem stepOps_comp (fi : FuncId) (base : Nat) (all : List Oper) : ∀ (ops : List Oper) (s : S),
 Comp (fun k => stepOps ⟨T, H, callK P T H k, H fi, base⟩ all ops s) (stepOps ⟨T, H, call P T H, H fi, base⟩ all ops s)
 | [], s => Comp.const _
 | o :: os, s => by
  have hA : ∀ s, Comp (fun k => stepOp ⟨T, H, callK P T H k, H fi, base⟩ o s) (stepOp ⟨T, H, call P T H, H fi, base⟩ o s) := fun s => (stepOp_asks ⟨T, H, call P T H, H fi, base⟩ o s).comp
  have mA : ∀ s, Mono (fun k => stepOp ⟨T, H, callK P T H k, H fi, base⟩ o s) := fun s k => (stepOp_asks ⟨T, H, call P T H, H fi, base⟩ o s).mono (allMono P T H k).call
  have mO : ∀ s, Mono (fun k => stepOps ⟨T, H, callK P T H k, H fi, base⟩ all os s) := fun s k => stepOps_mono (c := ⟨T, H, callK P T H k, H fi, base⟩) (allMono P T H k).call _ _ _
  unfold stepOps
  split
  ·exact Comp.const _
  ·exact Comp.thenR (hA s) (mA s) (stepOps_comp fi base all os) mO
  ·split
   ·exact Comp.thenR (hA _) (mA _) (stepOps_comp fi base all os) mO
   ·exact stepOps_comp fi base all os _
theorem evF_comp (fi base blk : Nat) (c : Code) (s : S) : Comp (fun k => evF T H (evC P T H k) (callK P T H k) fi base blk c s) (evF T H (ev P T H) (call P T H) fi base blk c s) := by
 cases c <;> unfold evF <;> dsimp only
 case region id ops draw => exact Comp.map1 (exOf _) rfl (stepOps_comp fi base _ _ _)
 case seq a b => exact Comp.thenS (ev_comp _ _ _ _ _) (ev_mono _ _ _ _ _) (fun s => ev_comp _ _ _ _ _) (fun s => ev_mono _ _ _ _ _)
 case cond x a b =>
  split
  ·split <;> exact ev_comp _ _ _ _ _
  ·exact Comp.const _
 case block id b => exact Comp.map1 (blockEx _ _) rfl (ev_comp _ _ _ _ _)
 case scope b => exact ev_comp _ _ _ _ _
 case loop b =>
  split
  ·exact Comp.thenS (Comp.map1 (cutX _ _ _) rfl (ev_comp _ _ _ _ _)) (fun k => Le.cutX (ev_mono _ _ _ _ _ k)) (fun s' => Comp.bind (Comp.const _) (fun k => Le.refl _) (fun x => ev_comp _ _ _ _ _) (fun x => ev_mono _ _ _ _ _)) (fun s' k => Le.bind (Le.refl _) fun x => ev_mono _ _ _ _ _ k)
  ·exact Comp.thenS (ev_comp _ _ _ _ _) (ev_mono _ _ _ _ _) (fun s => ev_comp _ _ _ _ _) (fun s => ev_mono _ _ _ _ _)
 case rangeFunc f ps a b =>
  split
  ·exact Comp.const _
  ·exact Comp.map1 (rangeEnd _) rfl (callV_asks ⟨T, H, call P T H, H fi, base⟩ _ _ _ _).comp
 all_goals exact Comp.const _
theorem yldBody_comp (id n : Nat) (f : FuncId) (b : Code) (x : Ex × S) : Comp (fun k => yldBody (evC P T H k) id n f b x) (yldBody (ev P T H) id n f b x) := by
 obtain ⟨e, s⟩ := x
 cases e <;> unfold yldBody <;> dsimp only
 case normal =>
  split
  ·exact Comp.bind (ev_comp _ _ _ _ _) (ev_mono _ _ _ _ _) (fun _ => Comp.const _) (fun _ k => Le.refl _)
  ·exact Comp.const _
 all_goals exact Comp.const _
theorem ev_eq (fi base blk : Nat) (c : Code) (s : S) : ev P T H fi base blk c s = evF T H (ev P T H) (call P T H) fi base blk c s := by
 refine opt_ext fun r => ?_
 constructor
 ·intro h
  obtain ⟨k, hk⟩ := ev_some.1 h
  cases k with
  | zero => rw [evC] at hk; cases hk
  | succ k => rw [evC] at hk; exact evF_mono (ev_le k) (call_le k) _ _ _ _ _ _ hk
 ·intro h
  obtain ⟨k, hk⟩ := evF_comp _ _ _ _ _ _ h
  exact ev_some.2 ⟨k + 1, by rw [evC]; exact hk⟩
theorem guardF_comp (g : FuncId) (args : List AV) (σ : List AObj) (pv : Option PV) : Comp (fun k => guardF P H (evC P T H k) g args σ pv) (guardF P H (ev P T H) g args σ pv) := by
 unfold guardF
 split
 ·split
  ·split
   ·split
    ·exact Comp.bind (ev_comp _ _ _ _ _) (ev_mono _ _ _ _ _) (fun _ => Comp.const _) (fun _ k => Le.refl _)
    ·exact Comp.const _
   ·exact Comp.const _
  ·exact Comp.const _
 ·exact Comp.const _
theorem endD_comp (f : FuncId) (rs : List ResultVar) (base : Nat) (g : FuncId) (args : List AV) (x : Ex × S) : Comp (fun k => endD P T H (evC P T H k) f rs base g args x) (endD P T H (ev P T H) f rs base g args x) := by
 obtain ⟨e, s⟩ := x
 cases e <;> unfold endD <;> dsimp only
 case exit => exact Comp.const _
 all_goals exact Comp.bind (guardF_comp _ _ _ _) (fun k => guardF_mono (allMono P T H k).ev _ _ _ _) (fun _ => Comp.const _) (fun _ k => Le.refl _)
theorem deferD_comp (f : FuncId) (rs : List ResultVar) (base : Nat) (cl : Call) (b : Code) (x : Ex × S) : Comp (fun k => deferD P T H (evC P T H k) f rs base cl b x) (deferD P T H (ev P T H) f rs base cl b x) := by
 obtain ⟨e, s⟩ := x
 cases e <;> unfold deferD <;> dsimp only
 case normal => exact Comp.bind (Comp.const _) (fun k => Le.refl _) (fun q => Comp.bind (ev_comp _ _ _ _ _) (ev_mono _ _ _ _ _) (fun r => endD_comp _ _ _ _ _ _) (fun r k => endD_mono (allMono P T H k).ev _ _ _ _ _ _)) (fun q k => Le.bind (ev_mono _ _ _ _ _ k) fun r => endD_mono (allMono P T H k).ev _ _ _ _ _ _)
 all_goals exact Comp.const _
theorem bodyD_comp (f : FuncId) (rs : List ResultVar) (c : Code) (args : List AV) (σ : List AObj) : Comp (fun k => bodyD P T H (evC P T H k) f rs c args σ) (bodyD P T H (ev P T H) f rs c args σ) := by
 unfold bodyD
 split
 ·exact Comp.map1 retO rfl (Comp.bind (ev_comp _ _ _ _ _) (ev_mono _ _ _ _ _) (fun r => Comp.bind (Comp.const _) (fun k => Le.refl _) (fun q => deferD_comp _ _ _ _ _ _) (fun q k => deferD_mono (allMono P T H k).ev _ _ _ _ _ _)) (fun r k => Le.bind (Le.refl _) fun q => deferD_mono (allMono P T H k).ev _ _ _ _ _ _))
 ·exact Comp.const _
theorem body_eq (cal : Cal) (args : List AV) (σ : List AObj) (pv : Option PV) : bodyL P T H cal args σ pv = bodyF P T H (ev P T H) (dfsL P T H) cal args σ pv := by
 have hc : Comp (fun k => bodyF P T H (evC P T H k) (dfsK P T H k) cal args σ pv) (bodyF P T H (ev P T H) (dfsL P T H) cal args σ pv) := by
  cases cal <;> unfold bodyF <;> dsimp only
  case fn f =>
   split
   ·exact Comp.const _
   unfold bodyC
   split
   ·split
    ·split
     ·exact Comp.const _
     ·split
      ·exact bodyD_comp _ _ _ _ _
      refine Comp.bind (ev_comp _ _ _ _ _) (ev_mono _ _ _ _ _) (fun x => ?_) (fun x k => Le.bind (Le.refl _) fun q => Le.endBody (dfs_mono _ _ k))
      exact Comp.bind (Comp.const _) (fun k => Le.refl _) (fun q => Comp.map1 (endBody T _ _ _) rfl (fun r h => dfs_some.1 h)) (fun q k => Le.endBody (dfs_mono _ _ k))
    ·exact Comp.const _
   ·exact Comp.const _
  case yld id =>
   split
   ·split
    ·exact Comp.bind (ev_comp _ _ _ _ _) (ev_mono _ _ _ _ _) (fun x => yldBody_comp _ _ _ _ _) (fun x k => yldBody_mono (allMono P T H k).ev _ _ _ _ _)
    ·exact Comp.const _
   ·exact Comp.const _
 refine opt_ext fun r => ?_
 constructor
 ·intro h
  obtain ⟨k, hk⟩ := body_some.1 h
  cases k with
  | zero => rw [bodyK] at hk; cases hk
  | succ k => rw [bodyK] at hk; exact bodyF_mono (ev_le k) (dfs_le k) _ _ _ _ _ hk
 ·intro h
  obtain ⟨k, hk⟩ := hc _ h
  exact body_some.2 ⟨k + 1, by rw [bodyK]; exact hk⟩
theorem dfs_eq (pv : Option PV) (s : S) : dfsL P T H pv s = dfsF (bodyL P T H) (dfsL P T H) pv s := by
 have hc : Comp (fun k => dfsF (bodyK P T H k) (dfsK P T H k) pv s) (dfsF (bodyL P T H) (dfsL P T H) pv s) := by
  unfold dfsF
  split
  ·exact Comp.const _
  ·exact Comp.const _
 refine opt_ext fun r => ?_
 constructor
 ·intro h
  obtain ⟨k, hk⟩ := dfs_some.1 h
  cases k with
  | zero => rw [dfsK] at hk; cases hk
  | succ k => rw [dfsK] at hk; exact dfsF_mono (body_le k) (dfs_le k) _ _ _ hk
 ·intro h
  obtain ⟨k, hk⟩ := hc _ h
  exact dfs_some.2 ⟨k + 1, by rw [dfsK]; exact hk⟩
theorem call_eq (cal : Cal) (args : List AV) (σ : List AObj) : call P T H cal args σ = (bodyL P T H cal args σ none).bind fun r => some (r.1, r.2.1) := by
 refine opt_ext fun r => ?_
 constructor
 ·intro h
  obtain ⟨k, hk⟩ := call_some.1 h
  cases k with
  | zero => rw [callK] at hk; cases hk
  | succ k => rw [callK] at hk; exact Le.bind (body_le k _ _ _ _) (fun _ => Le.refl _) _ hk
 ·intro h
  obtain ⟨q, hq, hr⟩ := Option.bind_eq_some_iff.1 h
  obtain ⟨k, hk⟩ := body_some.1 hq
  exact call_some.2 ⟨k + 1, by rw [callK]; exact Option.bind_eq_some_iff.2 ⟨q, hk, hr⟩⟩
end
end Go.AM
