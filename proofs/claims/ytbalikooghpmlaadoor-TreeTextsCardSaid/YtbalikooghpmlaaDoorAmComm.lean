/- A part of the abstract machine and its simulation. -/
import Derived.Test.YtbalikooghpmlaaDoorAmLoc
set_option linter.unusedVariables false
set_option linter.unusedSimpArgs false
namespace Go.AM
open Go
section
variable {c : Cx} {o : Oper} {s s1 : S}
theorem clsP_extract {x : Operand} {i : Nat} (ho : o.op = .extract x i) (h : stepOp0 c o s = some (.ok s1)) (σ2 : List AObj) : stepOp0 c o { s with σ := σ2 } = some (.ok { s1 with σ := σ2 }) ∧ s1.σ = s.σ := by
 unfold stepOp0 at h ⊢
 rw [ho] at h ⊢
 dsimp only at h ⊢
 split at h
 ·rename_i v t hv
  split at h
  ·rename_i hz; rw [if_pos hz]; injection h with h; injection h with h; subst h; exact ⟨rfl, rfl⟩
  ·rename_i hz; rw [if_neg hz]
   split at h
   ·injection h with h; injection h with h; subst h; exact ⟨rfl, rfl⟩
   ·injection h with h; injection h with h; subst h; exact ⟨rfl, rfl⟩
 ·cases h
theorem callV_pu {c : Cx} {f : FuncId} (hp : (c.H f).pu = true) (s : S) (d : Option Nat) (args : List AV) : callV c s d (.p (.fn f)) args = if pureArgs args = true then (match c.C (.fn f) args [] with
 | some (o, _) => some (endCall s d s.σ o)
 | none => none) else none := by
 unfold callV
 dsimp only
 rw [if_pos hp]
 split
 ·rename_i h; split <;> rename_i h2 <;> rw [h2]
 ·rfl
theorem clsP_ok (hp : clsP c.H c.h o = true) (h : stepOp0 c o s = some (.ok s1)) (σ2 : List AObj) : stepOp0 c o { s with σ := σ2 } = some (.ok { s1 with σ := σ2 }) ∧ s1.σ = s.σ := by
 have pr : ∀ {d : Option Nat} {v : Option AV}, putRes s d v = some (.ok s1) → putRes { s with σ := σ2 } d v = some (.ok { s1 with σ := σ2 }) ∧ s1.σ = s.σ := by
  intro d v h
  cases v with
  | none => cases h
  | some x => injection h with h; injection h with h; subst h; exact ⟨rfl, rfl⟩
 unfold clsP at hp
 unfold stepOp0 at h ⊢
 cases ho : o.op with
 | extract x i => have := clsP_extract (c := c) ho (by unfold stepOp0; exact h) σ2; unfold stepOp0 at this; rw [ho] at this; exact this
 | move x =>
  rw [ho] at h hp; dsimp only at h hp ⊢
  split at h
  ·rename_i d hd
   have hz : ¬ c.h.fz.contains d = true := by
    rw [hd] at hp
    simpa [fzO] using hp
   rw [if_neg hz] at h ⊢
   split at h
   ·rename_i hz; rw [if_pos hz]; injection h with h; injection h with h; subst h; exact ⟨rfl, rfl⟩
   ·rename_i hz; rw [if_neg hz]; injection h with h; injection h with h; subst h; exact ⟨rfl, rfl⟩
  ·cases h
 | assign x =>
  rw [ho] at h hp; dsimp only at h hp ⊢
  have hz : ∀ σ, asgN c.T c.h o.type σ x o.dst = none := fun σ => by
   unfold asgN
   cases hd : o.dst with
   | none => rfl
   | some d =>
    have : ¬ c.h.nw.contains d = true := by
     rw [hd] at hp
     simpa [nwO] using hp
    dsimp only
    split
    ·rw [if_neg this]
    ·rfl
  rw [hz] at h ⊢
  injection h with h; injection h with h; subst h; exact ⟨rfl, rfl⟩
 | pick x a b =>
  rw [ho] at h; dsimp only at h ⊢
  split at h
  ·injection h with h; injection h with h; subst h; exact ⟨rfl, rfl⟩
  ·cases h
 | binOp _ _ _ _ _ => rw [ho] at h; exact pr h
 | unOp _ _ _ =>
  rw [ho] at h; dsimp only at h ⊢
  split at h <;> first | (injection h with h; injection h with h; subst h; exact ⟨rfl, rfl⟩) | cases h
 | nilCheck x =>
  rw [ho] at h; dsimp only at h ⊢
  split at h <;> first | (injection h with h; injection h with h; subst h; exact ⟨rfl, rfl⟩) | cases h
 | indexAddr _ _ _ =>
  rw [ho] at h; dsimp only at h ⊢
  split at h
  ·exact pr h
  ·cases h
 | fieldAddr _ _ _ =>
  rw [ho] at h; dsimp only at h ⊢
  split at h
  ·split at h
   ·rename_i hz; rw [if_pos hz]; exact pr h
   ·cases h
  ·cases h
 | field _ _ _ =>
  rw [ho] at h; dsimp only at h ⊢
  split at h
  ·split at h
   ·split at h
    ·rename_i hz; rw [if_pos hz]
     split at h
     ·injection h with h; injection h with h; subst h; exact ⟨rfl, rfl⟩
     ·cases h
    ·cases h
   ·split at h
    ·injection h with h; injection h with h; subst h; exact ⟨rfl, rfl⟩
    ·cases h
   ·cases h
  ·cases h
 | index _ _ _ =>
  rw [ho] at h; dsimp only at h ⊢
  split at h
  ·split at h
   ·rename_i h0; rw [if_pos h0]
    split at h
    ·split at h
     ·split at h
      ·injection h with h; injection h with h; subst h; exact ⟨rfl, rfl⟩
      ·cases h
     ·cases h
    ·split at h
     ·split at h
      ·rename_i hz; rw [if_pos hz]
       split at h
       ·injection h with h; injection h with h; subst h; exact ⟨rfl, rfl⟩
       ·cases h
      ·cases h
     ·cases h
    ·cases h
   ·cases h
  ·cases h
 | convert _ _ _ =>
  rw [ho] at h; dsimp only at h ⊢
  split at h <;> first | (injection h with h; injection h with h; subst h; exact ⟨rfl, rfl⟩) | (split at h <;> first | (injection h with h; injection h with h; subst h; exact ⟨rfl, rfl⟩) | cases h) | cases h
 | makeInterface _ _ =>
  rw [ho] at h; dsimp only at h ⊢
  split at h
  ·cases h
  ·rename_i hz; rw [if_neg hz]
   split at h <;> (injection h with h; injection h with h; subst h; exact ⟨rfl, rfl⟩)
 | build _ _ =>
  rw [ho] at h; dsimp only at h ⊢
  split at h
  ·cases h
  ·rename_i hz; rw [if_neg hz]
   split at h
   ·injection h with h; injection h with h; subst h; exact ⟨rfl, rfl⟩
   ·cases h
 | makeFunc fn _ _ =>
  rw [ho] at h
  cases fn with
  | func f =>
   dsimp only at h ⊢
   split at h
   ·rename_i hz; rw [if_pos hz]
    split at h <;> (injection h with h; injection h with h; subst h; exact ⟨rfl, rfl⟩)
   ·cases h
  | _ => cases h
 | slice _ _ _ _ _ =>
  rw [ho] at h hp; dsimp only at h hp ⊢
  have hnw : ¬ nwO c.h o.dst = true := by simpa using hp
  rw [if_neg hnw] at h ⊢
  split at h
  ·cases h
  ·rename_i hz; rw [if_neg hz]
   split at h
   ·split at h
    ·exact pr h
    ·split at h
     ·split at h
      ·rename_i hq; rw [if_pos hq]
       split at h
       ·injection h with h; injection h with h; subst h; exact ⟨rfl, rfl⟩
       ·cases h
      ·cases h
     ·cases h
    ·cases h
   ·cases h
 | buildSlice _ _ _ =>
  rw [ho] at h hp; dsimp only at h hp ⊢
  split at h
  ·split at h
   ·rename_i d rows hd hf
    rw [hd] at hp
    have hnw : ¬ c.h.nw.contains d = true := by simpa using hp
    split at h
    ·cases h
    ·rename_i hz; rw [if_neg hz]
     split at h
     ·rename_i h24; rw [if_pos h24]
      rw [if_neg hnw]
      injection h with h; injection h with h; subst h; exact ⟨rfl, rfl⟩
     ·cases h
   ·cases h
  ·cases h
 | makeSlice _ _ _ =>
  rw [ho] at h hp; dsimp only at h hp ⊢
  split at h
  ·split at h
   ·rename_i k1 n k2 m d h1 h2 hd
    rw [hd] at hp
    have hnw : ¬ c.h.nw.contains d = true := by simpa using hp
    split at h
    ·rename_i hz; rw [if_pos hz]
     rw [if_neg hnw]
     injection h with h; injection h with h; subst h; exact ⟨rfl, rfl⟩
    ·cases h
   ·cases h
  ·cases h
 | call cl =>
  rw [ho] at h hp; dsimp only at h hp ⊢
  cases hcal : cl.callee with
  | value f =>
   rw [hcal] at h hp
   dsimp only at h hp ⊢
   cases f with
   | func f =>
    dsimp only at hp
    have hrd : ∀ env, rd c.T env (.func f) = .p (.fn f) := fun _ => rfl
    rw [hrd] at h ⊢
    rw [callV_pu hp] at h ⊢
    generalize nilTs c.T _ 0 cl.argTypes.toList cl.args.toList (argsV c.T c.h s.env cl.args.toList) = aa at h ⊢
    split at h
    ·rename_i hpa
     split at h
     ·rename_i o1 σ1 hc
      rw [if_pos hpa]
      cases o1 with
      | ret v => injection h with h; injection h with h; subst h; exact ⟨rfl, rfl⟩
      | pan v => injection h with h; cases h
     ·cases h
    ·cases h
   | _ => cases hp
  | invoke r m => rw [hcal] at h; cases h
  | builtin b =>
   rw [hcal] at h hp
   cases b with
   | len =>
    dsimp only at h ⊢
    split at h
    ·split at h
     ·split at h
      ·rename_i hz; rw [if_pos hz]; injection h with h; injection h with h; subst h; exact ⟨rfl, rfl⟩
      ·cases h
     ·cases h
    ·cases h
   | min =>
    dsimp only at h ⊢
    split at h
    ·injection h with h; injection h with h; subst h; exact ⟨rfl, rfl⟩
    ·cases h
   | max =>
    dsimp only at h ⊢
    split at h
    ·injection h with h; injection h with h; subst h; exact ⟨rfl, rfl⟩
    ·cases h
   | append =>
    dsimp only at h hp ⊢
    split at h
    ·rename_i x y t t' d hx ht hd
     rw [hd] at hp
     have hap0 : apB c.h d = true := hp
     simp only [hap0, if_true] at h ⊢
     split at h
     ·rename_i e he
      split at h
      ·rename_i hc
       rw [if_pos hc]
       split at h
       ·rename_i v σ' hap
        injection h with h; injection h with h; subst h
        exact ⟨rfl, rfl⟩
       ·cases h
      ·cases h
     ·cases h
    ·cases h
   | _ => cases hp
 | _ => rw [ho] at hp; cases hp
theorem readAt_more {σ : List AObj} {a : AV} {r : List AV × Nat} (ob : List AObj) (h : readAt σ a = some r) : readAt (σ ++ ob) a = some r := by
 have get : ∀ {id : Nat} {o : AObj}, σ[id]? = some o → (σ ++ ob)[id]? = some o := fun h => by
  rw [List.getElem?_append_left (List.getElem?_eq_some_iff.1 h).1]; exact h
 unfold readAt at h ⊢
 split at h
 ·split at h
  ·rename_i h0
   rw [get h0]; exact h
  ·cases h
 ·split at h
  ·rename_i h0
   rw [get h0]; exact h
  ·cases h
 ·cases h
theorem loadV_more {T : Tab} {σ : List AObj} {t : TypeId} {a v : AV} (ob : List AObj) (h : loadV T σ t a = some v) : loadV T (σ ++ ob) t a = some v := by
 unfold loadV at h ⊢
 split at h
 ·exact h
 ·exact h
 ·split at h
  ·rename_i hr
   rw [readAt_more ob hr]; exact h
  ·cases h
def SimC (σ σ' : List AObj) : Prop := ∀ a, (readAt σ a).map (fun p => (copyL p.1, p.2)) = (readAt σ' a).map (fun p => (copyL p.1, p.2))
theorem SimC.refl (σ : List AObj) : SimC σ σ := fun _ => rfl
theorem SimC.symm {σ σ' : List AObj} (h : SimC σ σ') : SimC σ' σ := fun a => (h a).symm
theorem copyL_map : ∀ cs : List AV, copyL cs = cs.map copyV
 | [] => rfl
 | c :: cs => by simp [copyL, copyL_map cs]
theorem allPure_cp : ∀ {cs : List AV} {ps : List PV}, allPure cs = some ps → copyL cs = cs
 | [], _, _ => rfl
 | .p v :: r, ps, h => by
  simp only [allPure] at h
  split at h
  ·rename_i l hl
   simp only [copyL, copyV, allPure_cp hl]
  ·cases h
 | .undef :: _, _, h => by cases h
 | .own _ _ :: _, _, h => by cases h
 | .agg _ :: _, _, h => by cases h
 | .tup _ :: _, _, h => by cases h
 | .asl _ _ _ :: _, _, h => by cases h
 | .ap _ :: _, _, h => by cases h
 | .ms _ _ _ _ _ :: _, _, h => by cases h
 | .ptr _ _ :: _, _, h => by cases h
 | .ep _ _ _ _ :: _, _, h => by cases h
 | .mp _ :: _, _, h => by cases h
 | .fn _ _ :: _, _, h => by cases h
 | .yld _ :: _, _, h => by cases h
 | .nms _ _ :: _, _, h => by cases h
 | .ifc _ _ :: _, _, h => by cases h
theorem copyA_mkAg (cs : List AV) : copyA (mkAgg cs) = mkAgg (copyL cs) := by
 cases h : allPure cs with
 | some ps => rw [allPure_cp h]; unfold mkAgg; rw [h]; rfl
 | none => unfold mkAgg; rw [h]; rfl
theorem copyA_of_copyV {v v' : AV} (h : copyV v = copyV v') : copyA v = copyA v' := by
 cases v <;> cases v' <;> simp only [copyV] at h <;> first | (cases h; done) | (cases h; rfl) | skip
theorem copyV_copyV (v : AV) : copyV (copyV v) = copyV v := by cases v <;> rfl
theorem pick_sim {T : Tab} {t : TypeId} {cs cs' : List AV} {off : Nat} {v : AV} (he : copyL cs = copyL cs') (h : pickAgg T t cs off = some v) : ∃ v', pickAgg T t cs' off = some v' ∧ copyA v' = copyA v := by
 rw [copyL_map, copyL_map] at he
 have hl : cs.length = cs'.length := by have := congrArg List.length he; simpa using this
 unfold pickAgg at h ⊢
 split at h
 ·split at h
  ·rename_i hc
   injection h with h; subst h
   rw [if_pos (by omega)]
   refine ⟨_, rfl, ?_⟩
   rw [copyA_mkAg, copyA_mkAg, copyL_map, copyL_map, List.map_take, List.map_drop, List.map_take, List.map_drop, he]
  ·cases h
 ·have : (cs.map copyV)[off]? = (cs'.map copyV)[off]? := by rw [he]
  rw [List.getElem?_map, List.getElem?_map, h] at this
  cases h' : cs'[off]? with
  | none => rw [h'] at this; cases this
  | some v' =>
   rw [h'] at this
   injection this with this
   exact ⟨v', rfl, (copyA_of_copyV this).symm⟩
 ·cases h
theorem loadV_sim {T : Tab} {σ σ' : List AObj} (hs : SimC σ σ') {t : TypeId} {a v : AV} (h : loadV T σ t a = some v) : ∃ v', loadV T σ' t a = some v' ∧ copyA v' = copyA v := by
 unfold loadV at h ⊢
 split at h
 ·exact ⟨v, h, rfl⟩
 ·exact ⟨v, h, rfl⟩
 ·split at h
  ·rename_i cs off hr
   have := hs a
   rw [hr] at this
   cases h' : readAt σ' a with
   | none => rw [h'] at this; cases this
   | some p =>
    rw [h'] at this
    injection this with this
    obtain ⟨h1, h2⟩ := Prod.mk.inj this
    obtain ⟨cs', off'⟩ := p
    simp only at h1 h2
    subst h2
    exact pick_sim h1 h
  ·cases h
theorem copyL_set {cs : List AV} {off : Nat} {v : AV} (h : cs[off]? = some v) : copyL (setCells cs off [copyV v]) = copyL cs := by
 obtain ⟨hlt, hv⟩ := List.getElem?_eq_some_iff.1 h
 have e : setCells cs off [copyV v] = cs.take off ++ copyV v :: cs.drop (off + 1) := by simp [setCells]
 have e2 : cs = cs.take off ++ v :: cs.drop (off + 1) := by
  conv => lhs; rw [← List.take_append_drop off cs]
  rw [List.drop_eq_getElem_cons hlt, hv]
 rw [e]
 conv => rhs; rw [e2]
 simp only [copyL_map, List.map_append, List.map_cons, copyV_copyV]
theorem writeAt_sim {σ : List AObj} {a : AV} {cs : List AV} {off : Nat} {r : List AV} (h : readAt σ a = some (cs, off)) (hr : copyL r = copyL cs) : SimC σ (writeAt σ a r) := by
 intro b
 unfold readAt at h
 split at h
 ·rename_i id o
  split at h
  ·rename_i cs0 h0
   injection h with h; obtain ⟨h1, h2⟩ := Prod.mk.inj h; subst h1; subst h2
   have hlt := (List.getElem?_eq_some_iff.1 h0).1
   show _ = (readAt (σ.set id (.cells r)) b).map _
   unfold readAt
   cases b with
   | ptr id' o' =>
    dsimp only
    by_cases he : id = id'
    ·subst he
     rw [List.getElem?_set_self hlt, h0]
     simp [hr]
    ·rw [List.getElem?_set_ne he]
   | ep id' g' i' j' =>
    dsimp only
    by_cases he : id = id'
    ·subst he
     rw [List.getElem?_set_self hlt, h0]
    ·rw [List.getElem?_set_ne he]
   | _ => rfl
  ·cases h
 ·rename_i id g i j
  split at h
  ·rename_i g' sz rows h0
   split at h
   ·rename_i hg
    split at h
    ·rename_i r0 hr0
     injection h with h; obtain ⟨h1, h2⟩ := Prod.mk.inj h; subst h1; subst h2
     have hlt := (List.getElem?_eq_some_iff.1 h0).1
     have hgg : g = g' := by simpa using hg
     subst hgg
     have hw : writeAt σ (.ep id g i j) r = σ.set id (.arr g sz (rows.set i r)) := by
      unfold writeAt; dsimp only; rw [h0]
     rw [hw]
     unfold readAt
     cases b with
     | ptr id' o' =>
      dsimp only
      by_cases he : id = id'
      ·subst he
       rw [List.getElem?_set_self hlt, h0]
      ·rw [List.getElem?_set_ne he]
     | ep id' g' i' j' =>
      dsimp only
      by_cases he : id = id'
      ·subst he
       rw [List.getElem?_set_self hlt, h0]
       dsimp only
       split
       ·by_cases hi : i = i'
        ·subst hi
         rw [List.getElem?_set_self (List.getElem?_eq_some_iff.1 hr0).1, hr0]
         simp [hr]
        ·rw [List.getElem?_set_ne hi]
       ·rfl
      ·rw [List.getElem?_set_ne he]
     | _ => rfl
    ·cases h
   ·cases h
  ·cases h
 ·cases h
theorem clsL_ok (hl : clsL c.h o = true) (h : stepOp0 c o s = some (.ok s1)) (σ2 : List AObj) (hs : SimC s.σ σ2) : stepOp0 c o { s with σ := σ2 } = some (.ok { s1 with σ := σ2 }) ∧ s1.σ = s.σ := by
 unfold clsL at hl
 unfold stepOp0 at h ⊢
 cases ho : o.op with
 | load t x =>
  rw [ho] at h hl; dsimp only at h hl ⊢
  split at h
  ·rename_i v hv
   obtain ⟨v', hv', he⟩ := loadV_sim (T := c.T) hs hv
   rw [hv']
   dsimp only
   split at h
   ·rename_i d hd
    rw [hd] at hl
    have hmv : ¬ (c.h.mv.contains d && (c.T.at t).d.agg? == some false) = true := by
     simp only [Bool.not_eq_true'] at hl
     rw [hl]; simp
    rw [if_neg hmv] at h
    rw [if_neg hmv]
    injection h with h; injection h with h; subst h
    rw [he]; exact ⟨rfl, rfl⟩
   ·cases h
  ·cases h
 | _ => rw [ho] at hl; cases hl
theorem clsM_ok (hm : clsM c.H o = true) (h : stepOp0 c o s = some (.ok s1)) : SimC s.σ s1.σ := by
 unfold clsM at hm
 unfold stepOp0 at h
 cases ho : o.op with
 | load t x =>
  rw [ho] at h; dsimp only at h
  split at h
  ·rename_i v hv
   split at h
   ·rename_i d hd
    split at h
    ·rename_i hc
     split at h
     ·rename_i cs off hr
      injection h with h; injection h with h; subst h
      refine writeAt_sim hr (copyL_set ?_)
      simp only [Bool.and_eq_true, beq_iff_eq] at hc
      have hnp : ∀ cs, rd c.T s.env x ≠ .p (.pp cs) := fun cs e => by rw [e] at hr; cases hr
      have hna : ∀ cs, rd c.T s.env x ≠ .ap cs := fun cs e => by rw [e] at hr; cases hr
      unfold loadV at hv
      split at hv
      ·rename_i cs e; exact absurd e (hnp cs)
      ·rename_i cs e; exact absurd e (hna cs)
      ·rw [hr] at hv
       dsimp only at hv
       unfold pickAgg at hv
       rw [hc.2] at hv
       exact hv
     ·injection h with h; injection h with h; subst h; exact SimC.refl _
    ·injection h with h; injection h with h; subst h; exact SimC.refl _
   ·cases h
  ·cases h
 | call cl =>
  rw [ho] at h hm; dsimp only at h hm
  cases hcal : cl.callee with
  | value f =>
   cases f with
   | func f =>
    rw [hcal] at h hm; dsimp only at h hm
    simp only [Bool.and_eq_true, Bool.not_eq_true'] at hm
    have hrd : rd c.T s.env (.func f) = .p (.fn f) := rfl
    rw [hrd] at h
    unfold callV at h
    dsimp only at h
    rw [hm.1.1, hm.1.2, hm.2, if_neg (by decide), if_neg (by decide)] at h
    split at h
    ·rename_i o1 σ1 hc
     split at h
     ·rename_i hk
      have e := rdOk_eq hk
      subst e
      injection h with h
      cases o1 with
      | ret v => injection h with h; subst h; exact SimC.refl _
      | pan v => cases h
     ·cases h
    ·cases h
   | _ => rw [hcal] at hm; cases hm
  | _ => rw [hcal] at hm; cases hm
 | _ => rw [ho] at hm; cases hm
theorem mapAt_more {σ : List AObj} {kt : Option IntKind} {x : AV} {kvs : List (Value × PV)} (ob : List AObj) (h : mapAt σ kt x = some kvs) : mapAt (σ ++ ob) kt x = some kvs := by
 unfold mapAt at h ⊢
 split at h
 ·exact h
 ·rename_i id
  split at h
  ·rename_i kt' kvs' ho
   rw [List.getElem?_append_left (List.getElem?_eq_some_iff.1 ho).1, ho]
   exact h
  ·cases h
 ·cases h
theorem lookupV_more {T : Tab} {σ : List AObj} {t : TypeId} {x i : AV} {ok : Bool} {v : AV} (ob : List AObj) (h : lookupV T σ t x i ok = some v) : lookupV T (σ ++ ob) t x i ok = some v := by
 unfold lookupV at h ⊢
 split at h
 ·split at h
  ·rename_i hc
   rw [if_pos hc]
   split at h
   ·rename_i kvs z h1 h2
    rw [mapAt_more ob h1, h2]
    exact h
   ·cases h
  ·cases h
 ·cases h
theorem clsR_ok (hr : clsR c.h o = true) (h : stepOp0 c o s = some (.ok s1)) (ob : List AObj) : stepOp0 c o { s with σ := s.σ ++ ob } = some (.ok { s1 with σ := s.σ ++ ob }) ∧ s1.σ = s.σ := by
 unfold clsR at hr
 unfold stepOp0 at h ⊢
 cases ho : o.op with
 | load t x =>
  rw [ho] at h hr; dsimp only at h hr ⊢
  split at h
  ·rename_i v hv
   have hv2 : loadV c.T (s.σ ++ ob) t (rd c.T s.env x) = some v := loadV_more ob hv
   rw [hv2]
   dsimp only
   split at h
   ·rename_i d hd
    rw [hd] at hr
    have hmv : ¬ (c.h.mv.contains d && (c.T.at t).d.agg? == some false) = true := by
     simp only [Bool.not_eq_true'] at hr
     rw [hr]; simp
    rw [if_neg hmv] at h
    rw [if_neg hmv]
    injection h with h; injection h with h; subst h; exact ⟨rfl, rfl⟩
   ·cases h
  ·cases h
 | lookup t x i ok =>
  rw [ho] at h hr; dsimp only at h hr ⊢
  cases hv : lookupV c.T s.σ t (rd c.T s.env x) (rd c.T s.env i) ok with
  | none => rw [hv] at h; cases h
  | some v =>
   rw [hv] at h
   rw [lookupV_more ob hv]
   injection h with h; injection h with h; subst h; exact ⟨rfl, rfl⟩
 | call cl =>
  rw [ho] at h hr; dsimp only at h hr ⊢
  cases hcal : cl.callee with
  | builtin b =>
   rw [hcal] at h hr
   cases b with
   | append =>
    dsimp only at h hr ⊢
    split at h
    ·rename_i x y t t' d hx ht hd
     rw [hd] at hr
     have hr' : c.h.nw.contains d = false ∧ apB c.h d = false := by simpa using hr
     have hnw := hr'.1
     simp only [hr'.2, Bool.false_eq_true, if_false] at h ⊢
     split at h
     ·rename_i e he
      split at h
      ·rename_i hc
       rw [if_pos hc]
       rw [hnw] at h ⊢
       split at h
       ·rename_i v σ' hap
        obtain ⟨h1, h2⟩ := append_more ob hap
        rw [h1]
        injection h with h; injection h with h; subst h; subst h2
        exact ⟨rfl, rfl⟩
       ·cases h
      ·cases h
     ·cases h
    ·cases h
   | _ => cases hr
  | _ => rw [hcal] at hr; cases hr
 | _ => rw [ho] at hr; cases hr
theorem clsN_ok (hn : clsN c.h o = true) (h : stepOp0 c o s = some (.ok s1)) : ∃ ob, s1.σ = s.σ ++ [ob] := by
 unfold clsN at hn
 unfold stepOp0 at h
 cases ho : o.op with
 | alloc t =>
  rw [ho] at h hn; dsimp only at h hn
  split at h
  ·split at h
   ·split at h
    ·injection h with h; injection h with h; subst h; exact ⟨_, rfl⟩
    ·cases h
   split at h
   ·injection h with h; injection h with h; subst h; exact ⟨_, rfl⟩
   ·rename_i k hk
    exfalso
    unfold allocN at hk
    split at hk
    ·rename_i d hd
     rw [hd] at hn
     simp only [Bool.not_eq_true'] at hn
     rw [hn, if_neg (by decide)] at hk
     cases hk
    ·cases hk
  ·cases h
 | box t x =>
  rw [ho] at h; dsimp only at h
  split at h
  ·injection h with h; injection h with h; subst h; exact ⟨_, rfl⟩
  ·cases h
 | makeMap t r =>
  rw [ho] at h; dsimp only at h
  split at h
  ·injection h with h; injection h with h; subst h; exact ⟨_, rfl⟩
  ·cases h
 | buildSlice _ _ _ =>
  rw [ho] at h hn; dsimp only at h hn
  split at h
  ·split at h
   ·rename_i d rows hd hf
    rw [hd] at hn
    split at h
    ·cases h
    ·split at h
     ·injection h with h; injection h with h; subst h; exact ⟨_, rfl⟩
     ·cases h
   ·cases h
  ·cases h
 | makeSlice _ _ _ =>
  rw [ho] at h hn; dsimp only at h hn
  split at h
  ·split at h
   ·rename_i k1 n k2 m d h1 h2 hd
    rw [hd] at hn
    split at h
    ·injection h with h; injection h with h; subst h; exact ⟨_, rfl⟩
    ·cases h
   ·cases h
  ·cases h
 | _ => rw [ho] at hn; cases hn
theorem rOf_mem {o : Oper} {t : Nat} (h : Operand.tmp t ∈ o.op.operands.toList) : t ∈ rOf o := by
 unfold rOf
 exact List.mem_filterMap.2 ⟨_, h, rfl⟩
structure Eqv (s s' : S) : Prop where
 env : ∀ t, get s'.env t = get s.env t
 σ : s'.σ = s.σ
structure Act1 (R W : List Nat) (P Rd N L M : Bool) (f : S → Option Rs) : Prop where
 loc : ∀ s s' s1 : S, s'.σ = s.σ → (∀ t, t ∈ R → get s'.env t = get s.env t) → f s = some (.ok s1) → ∃ s1', f s' = some (.ok s1') ∧ Moved W s s' s1 s1'
 p : P = true → ∀ (s s1 : S) σ2, f s = some (.ok s1) → f { s with σ := σ2 } = some (.ok { s1 with σ := σ2 }) ∧ s1.σ = s.σ
 r : Rd = true → ∀ (s s1 : S) ob, f s = some (.ok s1) → f { s with σ := s.σ ++ ob } = some (.ok { s1 with σ := s.σ ++ ob }) ∧ s1.σ = s.σ
 n : N = true → ∀ s s1 : S, f s = some (.ok s1) → ∃ ob, s1.σ = s.σ ++ ob
 l : L = true → ∀ (s s1 : S) σ2, SimC s.σ σ2 → f s = some (.ok s1) → f { s with σ := σ2 } = some (.ok { s1 with σ := σ2 }) ∧ s1.σ = s.σ
 m : M = true → ∀ s s1 : S, f s = some (.ok s1) → SimC s.σ s1.σ
theorem commute {rx wx ry wy : List Nat} {Px Rx Nx Lx Mx Py Ry Ny Ly My : Bool} {fx fy : S → Option Rs} {s2 : S} (X : Act1 rx wx Px Rx Nx Lx Mx fx) (Y : Act1 ry wy Py Ry Ny Ly My fy) (hp : pairB Px Rx Lx Mx rx wx Py Ry Ny Ly My ry wy = true) (h1 : fx s = some (.ok s1)) (h2 : fy s1 = some (.ok s2)) :
 ∃ s1' s2', fy s = some (.ok s1') ∧ fx s1' = some (.ok s2') ∧ Eqv s2 s2' := by
 unfold pairB at hp
 simp only [Bool.and_eq_true, Bool.or_eq_true, List.all_eq_true, Bool.not_eq_true', List.contains_eq_mem, decide_eq_false_iff_not] at hp
 obtain ⟨⟨hcls, hxy⟩, hyx⟩ := hp
 obtain ⟨sx, hx0, hmx⟩ := X.loc s s s1 rfl (fun _ _ => rfl) h1
 rw [h1] at hx0
 have hxx : sx = s1 := by injection hx0 with hx0; injection hx0 with hx0; exact hx0.symm
 subst hxx
 have ysame : ∀ t, t ∈ ry → get s.env t = get sx.env t := fun t ht => ((hmx.out t (fun hw => (hxy t hw).1 ht)).1).symm
 have yAt : ∃ s1', fy s = some (.ok s1') ∧ (∀ t, t ∈ wy → get s1'.env t = get s2.env t) ∧ (∀ t, t ∉ wy → get s2.env t = get sx.env t ∧ get s1'.env t = get s.env t) ∧
  ∃ s2', fx s1' = some (.ok s2') ∧ s2'.σ = s2.σ ∧ (∀ t, t ∈ wx → get s2'.env t = get sx.env t) ∧ (∀ t, t ∉ wx → get s2'.env t = get s1'.env t) := by
  have xAt : ∀ {s1' : S} {σ2 : List AObj}, fx { s with σ := σ2 } = some (.ok { sx with σ := s2.σ }) → s1'.σ = σ2 → (∀ t, t ∉ wy → get s1'.env t = get s.env t) →
   ∃ s2', fx s1' = some (.ok s2') ∧ s2'.σ = s2.σ ∧ (∀ t, t ∈ wx → get s2'.env t = get sx.env t) ∧ (∀ t, t ∉ wx → get s2'.env t = get s1'.env t) := by
   intro s1' σ2 hx hσ ho
   obtain ⟨s2', h3, hm⟩ := X.loc { s with σ := σ2 } s1' _ hσ (fun t ht => ho t (fun hw => hyx t hw ht)) hx
   exact ⟨s2', h3, hm.σ, hm.inn, fun t ht => (hm.out t ht).2⟩
  rcases hcls with (((hP | hP) | ⟨hR, hRN⟩) | ⟨hL, hM⟩) | ⟨hM, hL⟩
  ·obtain ⟨_, hσx⟩ := X.p hP _ _ s.σ h1
   obtain ⟨s1', h3, hm⟩ := Y.loc sx s _ hσx.symm (fun t ht => ysame t ht) h2
   refine ⟨s1', h3, hm.inn, hm.out, xAt (σ2 := s2.σ) (X.p hP _ _ s2.σ h1).1 hm.σ (fun t ht => (hm.out t ht).2)⟩
  ·obtain ⟨hy2, hσy⟩ := Y.p hP _ _ s.σ h2
   obtain ⟨s1', h3, hm⟩ := Y.loc { sx with σ := s.σ } s _ rfl (fun t ht => ysame t ht) hy2
   refine ⟨s1', h3, hm.inn, hm.out, xAt (σ2 := s.σ) ?_ hm.σ (fun t ht => (hm.out t ht).2)⟩
   rw [hσy]; exact h1
  ·have hx1 := (X.r hR _ _ [] h1).2
   have hex : ∃ ob, s2.σ = sx.σ ++ ob := by
    rcases hRN with hR2 | hN
    ·exact ⟨[], by rw [(Y.r hR2 _ _ [] h2).2]; simp⟩
    ·exact Y.n hN _ _ h2
   obtain ⟨ob, hob⟩ := hex
   obtain ⟨s1', h3, hm⟩ := Y.loc sx s _ hx1.symm (fun t ht => ysame t ht) h2
   refine ⟨s1', h3, hm.inn, hm.out, xAt (σ2 := s.σ ++ ob) ?_ (by rw [hm.σ, hob, hx1]) (fun t ht => (hm.out t ht).2)⟩
   have := (X.r hR _ _ ob h1).1
   rw [hob, hx1]; exact this
  ·have hσx := (X.l hL _ _ s.σ (SimC.refl _) h1).2
   have hsm := Y.m hM _ _ h2
   rw [hσx] at hsm
   obtain ⟨s1', h3, hm⟩ := Y.loc sx s _ hσx.symm (fun t ht => ysame t ht) h2
   refine ⟨s1', h3, hm.inn, hm.out, xAt (σ2 := s2.σ) (X.l hL _ _ s2.σ hsm h1).1 hm.σ (fun t ht => (hm.out t ht).2)⟩
  ·have hsm := X.m hM _ _ h1
   obtain ⟨hy2, hσy⟩ := Y.l hL _ _ s.σ hsm.symm h2
   obtain ⟨s1', h3, hm⟩ := Y.loc { sx with σ := s.σ } s _ rfl (fun t ht => ysame t ht) hy2
   refine ⟨s1', h3, hm.inn, hm.out, xAt (σ2 := s.σ) ?_ hm.σ (fun t ht => (hm.out t ht).2)⟩
   rw [hσy]; exact h1
 obtain ⟨s1', h3, i1, o1, s2', h4, hσ, i2, o2⟩ := yAt
 refine ⟨s1', s2', h3, h4, fun t => ?_, hσ⟩
 by_cases hx : t ∈ wx
 ·rw [i2 t hx, (o1 t (hxy t hx).2).1]
 ·rw [o2 t hx]
  by_cases hy : t ∈ wy
  ·exact i1 t hy
  ·rw [(o1 t hy).2, (o1 t hy).1, (hmx.out t hx).1]
theorem clsRc_ok (hr : clsRc c.H o = true) (h : stepOp0 c o s = some (.ok s1)) (ob : List AObj) : stepOp0 c o { s with σ := s.σ ++ ob } = some (.ok { s1 with σ := s.σ ++ ob }) ∧ s1.σ = s.σ := by
 unfold clsRc at hr
 unfold stepOp0 at h ⊢
 cases ho : o.op with
 | call cl =>
  rw [ho] at h hr; dsimp only at h hr ⊢
  cases hcal : cl.callee with
  | value f =>
   cases f with
   | func f =>
    rw [hcal] at h hr; dsimp only at h hr ⊢
    simp only [Bool.and_eq_true, Bool.not_eq_true'] at hr
    have hrd : ∀ env, rd c.T env (.func f) = .p (.fn f) := fun _ => rfl
    rw [hrd] at h ⊢
    unfold callV at h ⊢
    dsimp only at h ⊢
    rw [hr.1, hr.2, if_neg (by decide), if_pos rfl] at h ⊢
    obtain ⟨o1, h6, h, hq⟩ := rmRun_ok h
    cases o1 with
    | ret v =>
     injection h with h; subst h
     refine ⟨?_, rfl⟩
     rcases hq with ⟨id, args', ob1, h1, h2, h3, h4, h5⟩ | ⟨args', σ1, h1, h2, h3, h5⟩
     ·have h3' : (s.σ ++ ob)[id]? = some ob1 := by
       have h3 : s.σ[id]? = some ob1 := h3
       rw [List.getElem?_append_left (List.getElem?_eq_some_iff.1 h3).1]; exact h3
      simp only [rmRun, h1, h2, h3', h4, h5, rmEnd, rdOk_self, h6, endCall, if_true, and_self]
      rfl
     ·simp only [rmRun, h1, h2, h3, h5, rmEnd0, h6, endCall, if_true]
      rfl
    | pan v => cases h
   | _ => rw [hcal] at hr; cases hr
  | _ => rw [hcal] at hr; cases hr
 | _ => rw [ho] at hr; cases hr
theorem clsRm_set0 (hr : clsRm c.H o = true) (h : stepOp0 c o s = some (.ok s1)) (σ2 : List AObj) (hσ : ∀ (i : Nat) g sz rows, s.σ[i]? = some (.arr g sz rows) → σ2[i]? = some (.arr g sz rows)) : stepOp0 c o { s with σ := σ2 } = some (.ok { s1 with σ := σ2 }) ∧ s1.σ = s.σ := by
 unfold clsRm at hr
 unfold stepOp0 at h ⊢
 cases ho : o.op with
 | call cl =>
  rw [ho] at h hr; dsimp only at h hr ⊢
  cases hcal : cl.callee with
  | value f =>
   cases f with
   | func f =>
    rw [hcal] at h hr; dsimp only at h hr ⊢
    simp only [Bool.and_eq_true, Bool.not_eq_true'] at hr
    have hrd : ∀ env, rd c.T env (.func f) = .p (.fn f) := fun _ => rfl
    rw [hrd] at h ⊢
    unfold callV at h ⊢
    dsimp only at h ⊢
    rw [hr.1.1, hr.1.2, if_neg (by decide), if_pos rfl] at h ⊢
    obtain ⟨o1, h6, h, hq⟩ := rmRun_ok h
    cases o1 with
    | ret v =>
     injection h with h; subst h
     refine ⟨?_, rfl⟩
     rcases hq with ⟨id, args', ob1, h1, h2, h3, h4, h5⟩ | ⟨args', σ1, h1, h2, h3, h5⟩
     ·have h3' : σ2[id]? = some ob1 := by
       cases ob1 with
       | arr g sz rows => exact hσ _ _ _ _ h3
       | cells cs => rw [hr.2] at h4; simp [rmOb] at h4
       | _ => simp [rmOb] at h4
      simp only [rmRun, h1, h2, h3', h4, h5, rmEnd, rdOk_self, h6, endCall, if_true, and_self]
      rfl
     ·simp only [rmRun, h1, h2, h3, h5, rmEnd0, h6, endCall, if_true]
      rfl
    | pan v => cases h
   | _ => rw [hcal] at hr; cases hr
  | _ => rw [hcal] at hr; cases hr
 | _ => rw [ho] at hr; cases hr
theorem offOk_p (s : S) (σ2 : List AObj) : offOk c o { s with σ := σ2 } = offOk c o s := rfl
theorem wrap {s s1 s' s1' : S} (h : stepOp c o s = some (.ok s1)) (he : offOk c o s' = offOk c o s) (k : stepOp0 (c.frm o) o s = some (.ok s1) → stepOp0 (c.frm o) o s' = some (.ok s1')) : stepOp c o s' = some (.ok s1') := by
 obtain ⟨h1, h2⟩ := stepOp_of h
 unfold stepOp
 rw [he, h1, if_pos rfl]
 exact k h2
theorem act_op (c : Cx) (o : Oper) : Act1 (rOf o) (wOf c.h o) (clsP c.H c.h o) (clsR c.h o || clsRc c.H o) (clsN c.h o) (clsL c.h o) (clsM c.H o) (stepOp c o) :=
 ⟨fun s s' s1 hσ hs h => stepOp_local hσ (fun t ht => hs t (rOf_mem ht)) h, fun hp s s1 σ2 h => ⟨wrap h rfl fun h => (clsP_ok (c := c.frm o) hp h σ2).1, (clsP_ok (c := c.frm o) hp (stepOp_of h).2 σ2).2⟩, fun hr s s1 ob h => (by
  rcases Bool.or_eq_true _ _ ▸ hr with hr | hr
  ·exact ⟨wrap h rfl fun h => (clsR_ok (c := c.frm o) hr h ob).1, (clsR_ok (c := c.frm o) hr (stepOp_of h).2 ob).2⟩
  ·exact ⟨wrap h rfl fun h => (clsRc_ok (c := c.frm o) hr h ob).1, (clsRc_ok (c := c.frm o) hr (stepOp_of h).2 ob).2⟩), fun hn s s1 h => let ⟨ob, h1⟩ := clsN_ok (c := c.frm o) hn (stepOp_of h).2; ⟨[ob], h1⟩, fun hl s s1 σ2 hs h => ⟨wrap h rfl fun h => (clsL_ok (c := c.frm o) hl h σ2 hs).1, (clsL_ok (c := c.frm o) hl (stepOp_of h).2 σ2 hs).2⟩, fun hm s s1 h => clsM_ok (c := c.frm o) hm (stepOp_of h).2⟩
noncomputable def stepG (c : Cx) (all : List Oper) (o : Oper) (s : S) : Option Rs :=
 match guardOf all s.env o with
 | none => none
 | some none => stepOp c o s
 | some (some (_, b, want)) => if b = some want then stepOp c o s else some (.ok (s.put o.dst udV))
theorem guard_same {all : List Oper} {env env' : Env} (h : ∀ t, t ∈ gOf all o → get env' t = get env t) : guardOf all env' o = guardOf all env o := by
 unfold guardOf gOf at *
 cases hg : o.guard with
 | none => rfl
 | some gw =>
  obtain ⟨j, w⟩ := gw
  rw [hg] at h
  dsimp only at h ⊢
  cases hj : all[j]? with
  | none => rfl
  | some oj =>
   rw [hj] at h
   dsimp only at h ⊢
   cases hd : oj.dst with
   | none => rfl
   | some d =>
    rw [hd] at h
    dsimp only
    rw [h d (by simp)]
theorem wOf_sub {h : FH} {o : Oper} {t : Nat} (ht : t ∈ wOf h o) : t ∈ o.dst.toList ∨ t ∈ rOf o := by
 have one : ∀ {x : Operand}, x ∈ o.op.operands.toList → t ∈ hands h x → t ∈ rOf o := fun hx hh => by
  have := hands_mem hh
  subst this
  exact rOf_mem hx
 unfold wOf at ht
 split at ht
 ·rename_i t' x y ho; exact .inr (one (by rw [ho]; simp [Op.operands]) ht)
 ·cases ht
 ·rename_i x ho; exact (List.mem_append.1 ht).imp id (one (by rw [ho]; simp [Op.operands]))
 ·rename_i x ho; exact (List.mem_append.1 ht).imp id (one (by rw [ho]; simp [Op.operands]))
 ·rename_i t' x ho; exact (List.mem_append.1 ht).imp id (one (by rw [ho]; simp [Op.operands]))
 ·rename_i u i ho
  refine (List.mem_append.1 ht).imp id (fun h1 => ?_)
  split at h1
  ·simp at h1
  simp at h1; subst h1
  exact rOf_mem (by rw [ho]; simp [Op.operands])
 ·rename_i cl ho
  have hargs : ∀ x ∈ cl.args.toList, x ∈ o.op.operands.toList := fun x hx => by rw [ho]; simp [Op.operands, Call.operands]; right; simpa using hx
  refine (List.mem_append.1 ht).imp id (fun h1 => ?_)
  split at h1
  ·split at h1
   ·rename_i x r hx
    exact one (hargs x (by rw [hx]; simp)) h1
   ·simp at h1
  ·obtain ⟨x, hx, hh⟩ := List.mem_flatMap.1 h1
   exact one (hargs x hx) hh
  ·simp at h1
 ·exact .inl ht
theorem frm_op (hop : match o.op with | .load .. | .store .. => True | _ => False) (s : S) : stepOp0 (c.frm o) o s = stepOp0 c o s := by
 unfold stepOp0
 cases ho : o.op with
 | load t a => rfl
 | store t a x => rfl
 | _ => (rw [ho] at hop; try cases hop)
def SameAt (k : Nat) (σ σ' : List AObj) : Prop := ∀ (id : Nat) cs, σ[id]? = some (.cells cs) → ∃ cs', σ'[id]? = some (.cells cs') ∧ cs'[k]? = cs[k]?
theorem clsO_ok {k : Nat} (hk : clsO c.h o = some k) (h : stepOp c o s = some (.ok s1)) : s1.σ = s.σ ∧ ∀ σ2, SameAt k s.σ σ2 → stepOp c o { s with σ := σ2 } = some (.ok { s1 with σ := σ2 }) := by
 obtain ⟨ho, h⟩ := stepOp_of h
 have hw : ∀ {σ2 : List AObj} {r : Option Rs}, stepOp0 (c.frm o) o { s with σ := σ2 } = r → stepOp c o { s with σ := σ2 } = r := fun {σ2 r} hr => by
  unfold stepOp
  rw [offOk_p, ho, if_pos rfl]; exact hr
 unfold clsO at hk
 split at hk
 ·rename_i t a hop _
  have hfo : ∀ s, stepOp0 (c.frm o) o s = stepOp0 c o s := fun s => frm_op (by rw [hop]; trivial) s
  rw [hfo] at h
  split at hk
  ·rename_i d hd
   split at hk
   ·cases hk
   ·rename_i hmv
    unfold offOk at ho
    rw [hop] at ho
    have ho : (offAt c.T t (rd c.T s.env a) (loOf c.h o.dst) && lmAt c.base (rd c.T s.env a) (lmOf c.h o.dst)) = true := ho
    have ho := (Bool.and_eq_true _ _ ▸ ho).1
    unfold loOf at ho
    rw [hd] at ho
    dsimp only at ho
    rw [hk] at ho
    unfold offAt oneCell at ho
    simp only [Bool.and_eq_true, beq_iff_eq] at ho
    obtain ⟨h1, h2, h3⟩ := ho
    unfold stepOp0 at h
    rw [hop] at h
    dsimp only at h
    generalize hra : rd c.T s.env a = ra at h h1
    unfold atK at h1
    split at h1
    ·rename_i id off
     have h1 : off = k := by simpa using h1
     subst h1
     split at h
     ·rename_i v hv
      rw [hd] at h
      dsimp only at h
      have hmv' : ¬ (c.h.mv.contains d && (c.T.at t).d.agg? == some false) = true := by
       simp only [Bool.and_eq_true]; exact fun e => hmv e.1
      rw [if_neg hmv'] at h
      injection h with h; injection h with h; subst h
      refine ⟨rfl, fun σ2 hσ => hw ?_⟩
      have hv2 : loadV c.T σ2 t (.ptr id off) = some v := by
       unfold loadV readAt at hv ⊢
       dsimp only at hv ⊢
       cases h0 : s.σ[id]? with
       | none => rw [h0] at hv; cases hv
       | some ob =>
        rw [h0] at hv
        cases ob with
        | cells cs =>
         dsimp only at hv
         obtain ⟨cs', q1, q2⟩ := hσ id cs h0
         rw [q1]
         dsimp only
         unfold pickAgg at hv ⊢
         rw [h2] at hv ⊢
         dsimp only at hv ⊢
         rw [q2]; exact hv
        | _ => cases hv
      rw [hfo]
      unfold stepOp0
      rw [hop]
      dsimp only
      rw [hra, hv2, hd]
      dsimp only
      rw [if_neg hmv']
      rfl
     ·cases h
    ·cases h1
  ·cases hk
 ·cases hk
theorem clsS_ok {k k' : Nat} (hk : clsS c.h o = some k) (hne : k' ≠ k) (h : stepOp c o s = some (.ok s1)) : SameAt k' s.σ s1.σ ∧ SameAt k' s1.σ s.σ := by
 obtain ⟨ho, h⟩ := stepOp_of h
 unfold clsS at hk
 split at hk
 ·rename_i t a x hop _
  rw [frm_op (by rw [hop]; trivial)] at h
  unfold offOk at ho
  rw [hop] at ho
  have ho : offAt c.T t (rd c.T s.env a) (soOf c.h a) = true := ho
  rw [hk] at ho
  unfold offAt oneCell at ho
  simp only [Bool.and_eq_true, beq_iff_eq] at ho
  obtain ⟨h1, h2, h3⟩ := ho
  unfold stepOp0 at h
  rw [hop] at h
  dsimp only at h
  generalize hra : rd c.T s.env a = ra at h h1
  unfold atK at h1
  split at h1
  ·rename_i id off
   have h1 : off = k := by simpa using h1
   subst h1
   split at h
   ·rename_i cs off' hrd
    split at h
    ·rename_i hc
     simp only [Bool.and_eq_true, decide_eq_true_eq] at hc
     injection h with h; injection h with h; subst h
     unfold readAt at hrd
     dsimp only at hrd
     cases h0 : s.σ[id]? with
     | none => rw [h0] at hrd; cases hrd
     | some ob =>
      rw [h0] at hrd
      cases ob with
      | cells cs0 =>
       injection hrd with hrd; injection hrd with e1 e2
       subst e1; subst e2
       have hlen : (cellsOf (mvV c.T c.h s.env x)).length = 1 := by rw [hc.1.2, h3]
       have hg : (setCells cs0 off (cellsOf (mvV c.T c.h s.env x)))[k']? = cs0[k']? := by
        rw [setCells_get _ _ _ hc.1.1.2, hlen]
        split
        ·rfl
        ·rw [if_neg (by omega)]
       have hlt := (List.getElem?_eq_some_iff.1 h0).1
       constructor
       ·intro id' cs' hi
        show ∃ q, (s.σ.set id (.cells _))[id']? = _ ∧ _
        by_cases e : id = id'
        ·subst e
         rw [h0] at hi; injection hi with hi; injection hi with hi; subst hi
         exact ⟨_, List.getElem?_set_self hlt, hg⟩
        ·exact ⟨cs', by rw [List.getElem?_set_ne e]; exact hi, rfl⟩
       ·intro id' cs' hi
        have hi : (s.σ.set id (.cells (setCells cs0 off (cellsOf (mvV c.T c.h s.env x)))))[id']? = some (.cells cs') := hi
        by_cases e : id = id'
        ·subst e
         rw [List.getElem?_set_self hlt] at hi
         injection hi with hi; injection hi with hi; subst hi
         exact ⟨cs0, h0, hg.symm⟩
        ·rw [List.getElem?_set_ne e] at hi
         exact ⟨cs', hi, rfl⟩
      | _ => cases hrd
    ·cases h
   ·cases h
  ·cases h1
 ·cases hk
theorem guard_none {all : List Oper} {k : Nat} (h : clsO c.h o = some k ∨ clsS c.h o = some k) (s : S) : stepG c all o s = stepOp c o s := by
 have hg : o.guard = none := by
  rcases h with h | h
  ·unfold clsO at h
   split at h
   ·assumption
   ·cases h
  ·unfold clsS at h
   split at h
   ·assumption
   ·cases h
 unfold stepG guardOf
 rw [hg]
theorem osK_some {a b : Option Nat} (h : osK a b = true) : ∃ k k', a = some k ∧ b = some k' ∧ k ≠ k' := by
 cases a with
 | none => cases h
 | some k =>
  cases b with
  | none => cases h
  | some k' => exact ⟨k, k', rfl, rfl, by simpa [osK] using h⟩
theorem commute_os {x y : Oper} {all : List Oper} {s s1 s2 : S} (hp : ((osK (clsO c.h x) (clsS c.h y) || osK (clsO c.h y) (clsS c.h x)) && disB (rOf x) (wOf c.h x) (rOf y) (wOf c.h y)) = true)
 (h1 : stepG c all x s = some (.ok s1)) (h2 : stepG c all y s1 = some (.ok s2)) : ∃ s1' s2', stepG c all y s = some (.ok s1') ∧ stepG c all x s1' = some (.ok s2') ∧ Eqv s2 s2' := by
 unfold disB at hp
 simp only [Bool.and_eq_true, Bool.or_eq_true, List.all_eq_true, Bool.not_eq_true', List.contains_eq_mem, decide_eq_false_iff_not] at hp
 obtain ⟨hcls, hxy, hyx⟩ := hp
 have loc : ∀ {o : Oper} {s s' s1 : S}, s'.σ = s.σ → (∀ t, t ∈ rOf o → get s'.env t = get s.env t) → stepOp c o s = some (.ok s1) → ∃ s1', stepOp c o s' = some (.ok s1') ∧ Moved (wOf c.h o) s s' s1 s1' :=
  fun hσ hs h => stepOp_local hσ (fun t ht => hs t (rOf_mem ht)) h
 rcases hcls with hcls | hcls
 ·obtain ⟨k, k', e1, e2, hne⟩ := osK_some hcls
  rw [guard_none (.inl e1)] at h1
  rw [guard_none (.inr e2)] at h2
  obtain ⟨_, _, mx⟩ := loc rfl (fun _ _ => rfl) h1
  obtain ⟨hσ, hX⟩ := clsO_ok e1 h1
  obtain ⟨sA, _⟩ := clsS_ok e2 hne h2
  obtain ⟨s1', h3, m1⟩ := loc (s' := s) hσ.symm (fun t ht => ((mx.out t (fun e => (hxy t e).1 ht)).1).symm) h2
  rw [hσ] at sA
  have h4 := hX _ sA
  obtain ⟨_, _, mx2⟩ := loc rfl (fun _ _ => rfl) h4
  obtain ⟨s2', h5, m2⟩ := loc (o := x) (s := { s with σ := s2.σ }) (s' := s1') m1.σ (fun t ht => (m1.out t (fun e => hyx t e ht)).2) h4
  refine ⟨s1', s2', by rw [guard_none (.inr e2)]; exact h3, by rw [guard_none (.inl e1)]; exact h5, fun t => ?_, m2.σ⟩
  by_cases hx : t ∈ wOf c.h x
  ·rw [m2.inn t hx, (m1.out t (hxy t hx).2).1]
  ·rw [(m2.out t hx).2]
   by_cases hy : t ∈ wOf c.h y
   ·exact m1.inn t hy
   ·rw [(m1.out t hy).2, (m1.out t hy).1, (mx.out t hx).1]
 ·obtain ⟨k, k', e1, e2, hne⟩ := osK_some hcls
  rw [guard_none (.inr e2)] at h1
  rw [guard_none (.inl e1)] at h2
  obtain ⟨_, _, mx⟩ := loc rfl (fun _ _ => rfl) h1
  obtain ⟨hσ, hX⟩ := clsO_ok e1 h2
  obtain ⟨_, sB⟩ := clsS_ok e2 hne h1
  have h4 := hX _ sB
  obtain ⟨s1', h3, m1⟩ := loc (o := y) (s := { s1 with σ := s.σ }) (s' := s) rfl (fun t ht => ((mx.out t (fun e => (hxy t e).1 ht)).1).symm) h4
  obtain ⟨s2', h5, m2⟩ := loc (o := x) (s := s) (s' := s1') m1.σ (fun t ht => (m1.out t (fun e => hyx t e ht)).2) h1
  refine ⟨s1', s2', by rw [guard_none (.inl e1)]; exact h3, by rw [guard_none (.inr e2)]; exact h5, fun t => ?_, by rw [m2.σ, hσ]⟩
  by_cases hx : t ∈ wOf c.h x
  ·rw [m2.inn t hx]
   exact ((m1.out t (hxy t hx).2).1).symm
  ·rw [(m2.out t hx).2]
   by_cases hy : t ∈ wOf c.h y
   ·exact m1.inn t hy
   ·rw [(m1.out t hy).2, ← (mx.out t hx).1]
    exact ((m1.out t hy).1).symm
theorem set_self' {σ : List AObj} {id : Nat} {x : AObj} (h : σ[id]? = some x) : σ.set id x = σ := by
 refine List.ext_getElem? fun i => ?_
 by_cases e : id = i
 ·subst e; rw [List.getElem?_set_self (List.getElem?_eq_some_iff.1 h).1, h]
 ·rw [List.getElem?_set_ne e]
theorem frC_set {id : Nat} {C : CallF} {cal : Cal} {args : List AV} {σ σ' : List AObj} {o : Out} (h : frC id C cal args σ = some (o, σ')) :
 ∃ cs, σ[id]? = some (.cells cs) ∧ σ'[id]? = some (.cells cs) ∧ ∀ cs', frC id C cal args (σ.set id (.cells cs')) = some (o, σ'.set id (.cells cs')) := by
 obtain ⟨cs, σ1, h0, h1, h2, rfl⟩ := frC_some h
 have l0 := (List.getElem?_eq_some_iff.1 h0).1
 have l2 := (List.getElem?_eq_some_iff.1 h2).1
 refine ⟨cs, h0, List.getElem?_set_self l2, fun cs' => ?_⟩
 unfold frC
 rw [List.getElem?_set_self l0]
 dsimp only
 rw [List.set_set, h1]
 unfold frEnd
 dsimp only
 rw [h2]
 dsimp only
 rw [List.set_set]
theorem callV_fr {c : Cx} {id : Nat} {D : CallF} (hC : c.C = frC id D) {sA s1 : S} {d : Option Nat} (hfr : (frOf c.h d).isNone = false) {f : AV} {args : List AV} (h : callV c sA d f args = some (.ok s1)) :
 ∃ cs, sA.σ[id]? = some (.cells cs) ∧ s1.σ[id]? = some (.cells cs) ∧ ∀ cs', callV c { sA with σ := sA.σ.set id (.cells cs') } d f args = some (.ok { s1 with σ := s1.σ.set id (.cells cs') }) := by
 have eok : ∀ {σ : List AObj} {o1 : Out}, endCall sA d σ o1 = .ok s1 → ∃ v, o1 = .ret v ∧ s1 = ({ sA with σ := σ } : S).put d v := by
  intro σ o1 h
  cases o1 with
  | ret v => injection h with h; exact ⟨v, rfl, h.symm⟩
  | pan v => cases h
 unfold callV at h
 split at h
 ·rename_i f
  split at h
  ·rename_i hp
   split at h
   ·split at h
    ·rename_i o σ1 hc
     rw [hC] at hc
     obtain ⟨cs, h0, _⟩ := frC_set hc
     cases h0
    ·cases h
   ·cases h
  split at h
  ·rename_i hp hm
   obtain ⟨o1, _, _, hq⟩ := rmRun_ok h
   rcases hq with ⟨ia, args', ob1, _, _, q3, q4, q5⟩ | ⟨args', σ1, _, _, _, q5⟩
   ·rw [hC] at q5
    obtain ⟨cs, h0, _⟩ := frC_set q5
    rw [hfr, Bool.and_false] at q4
    cases id with
    | zero => injection h0 with h0; subst h0; cases q4
    | succ n => cases h0
   ·rw [hC] at q5
    obtain ⟨cs, h0, _⟩ := frC_set q5
    cases h0
  ·rename_i hp hm
   split at h
   ·rename_i o σ1 hc
    split at h
    case isFalse => cases h
    rename_i hrd
    injection h with h
    obtain ⟨v, rfl, rfl⟩ := eok h
    rw [hC] at hc
    obtain ⟨cs, h0, h1, hs⟩ := frC_set hc
    refine ⟨cs, h0, h1, fun cs' => ?_⟩
    have hr : rdOk (c.H f).rd (sA.σ.set id (.cells cs')) (σ1.set id (.cells cs')) = true := by
     cases hb : (c.H f).rd with
     | false => exact rdOk_f _ _
     | true =>
      rw [hb] at hrd
      rw [rdOk_eq hrd]; exact rdOk_self _ _
    unfold callV
    dsimp only
    rw [if_neg hp, if_neg hm, hC, hs cs']
    dsimp only
    rw [if_pos hr]
    rfl
   ·cases h
 ·split at h
  ·rename_i f cap _ o σ1 hc
   injection h with h
   obtain ⟨v, rfl, rfl⟩ := eok h
   rw [hC] at hc
   obtain ⟨cs, h0, h1, hs⟩ := frC_set hc
   refine ⟨cs, h0, h1, fun cs' => ?_⟩
   unfold callV
   dsimp only
   rw [hC, hs cs']
   rfl
  ·cases h
 ·split at h
  ·rename_i i _ o σ1 hc
   injection h with h
   obtain ⟨v, rfl, rfl⟩ := eok h
   rw [hC] at hc
   obtain ⟨cs, h0, h1, hs⟩ := frC_set hc
   refine ⟨cs, h0, h1, fun cs' => ?_⟩
   unfold callV
   dsimp only
   rw [hC, hs cs']
   rfl
  ·cases h
 ·cases h
theorem clsF_ok {k : Nat} (hk : clsF c.h o = some k) (h : stepOp c o s = some (.ok s1)) :
 ∃ cs, s.σ[frId c.base k]? = some (.cells cs) ∧ s1.σ[frId c.base k]? = some (.cells cs) ∧ ∀ cs', stepOp c o { s with σ := s.σ.set (frId c.base k) (.cells cs') } = some (.ok { s1 with σ := s1.σ.set (frId c.base k) (.cells cs') }) := by
 obtain ⟨ho, h⟩ := stepOp_of h
 unfold clsF at hk
 split at hk
 ·rename_i cl hop _
  split at hk
  ·rename_i f hcal
   unfold stepOp0 at h
   rw [hop] at h
   dsimp only at h
   rw [hcal] at h
   dsimp only at h
   obtain ⟨cs, h0, h1, hs⟩ := callV_fr (id := frId c.base k) (D := c.C) (by show frK (frOf c.h o.dst) c.base c.C = _; rw [hk]; rfl) (by show (frOf c.h o.dst).isNone = false; rw [hk]; rfl) h
   refine ⟨cs, h0, h1, fun cs' => ?_⟩
   unfold stepOp
   rw [offOk_p, ho, if_pos rfl]
   unfold stepOp0
   rw [hop]
   dsimp only
   rw [hcal]
   exact hs cs'
  ·cases hk
 ·cases hk
theorem clsK_ok {k : Nat} (hk : clsK c.h o = some k) (h : stepOp c o s = some (.ok s1)) :
 ∃ cs cs', s.σ[frId c.base k]? = some (.cells cs) ∧ s1.σ = s.σ.set (frId c.base k) (.cells cs') ∧ ∀ σ2 : List AObj, σ2[frId c.base k]? = some (.cells cs) → stepOp c o { s with σ := σ2 } = some (.ok { s1 with σ := σ2.set (frId c.base k) (.cells cs') }) := by
 obtain ⟨ho, h⟩ := stepOp_of h
 unfold clsK at hk
 split at hk
 ·rename_i t a hop _
  have hfo : ∀ s, stepOp0 (c.frm o) o s = stepOp0 c o s := fun s => frm_op (by rw [hop]; trivial) s
  rw [hfo] at h
  have hof := ho
  unfold offOk at ho
  rw [hop] at ho
  have ho : (offAt c.T t (rd c.T s.env a) (loOf c.h o.dst) && lmAt c.base (rd c.T s.env a) (lmOf c.h o.dst)) = true := ho
  have ho := (Bool.and_eq_true _ _ ▸ ho).2
  rw [hk] at ho
  unfold lmAt at ho
  dsimp only at ho
  unfold stepOp0 at h
  rw [hop] at h
  dsimp only at h
  generalize hra : rd c.T s.env a = ra at h ho
  split at ho
  ·rename_i id off
   have hid : id = frId c.base k := by simpa using ho
   subst hid
   split at h
   ·rename_i v hv
    unfold loadV readAt at hv
    dsimp only at hv
    cases h0 : s.σ[frId c.base k]? with
    | none => rw [h0] at hv; cases hv
    | some ob =>
     rw [h0] at hv
     cases ob with
     | cells cs =>
      dsimp only at hv
      have hv2 : ∀ {σ2 : List AObj}, σ2[frId c.base k]? = some (.cells cs) → loadV c.T σ2 t (.ptr (frId c.base k) off) = some v := fun {σ2} h2 => by
       unfold loadV readAt
       dsimp only
       rw [h2]; exact hv
      split at h
      ·rename_i d hd
       split at h
       ·rename_i hm
        have hr1 : readAt s.σ (.ptr (frId c.base k) off) = some (cs, off) := by unfold readAt; dsimp only; rw [h0]
        rw [hr1] at h
        dsimp only at h
        injection h with h; injection h with h; subst h
        refine ⟨cs, setCells cs off [copyV v], rfl, rfl, fun σ2 h2 => ?_⟩
        have hr2 : readAt σ2 (.ptr (frId c.base k) off) = some (cs, off) := by unfold readAt; dsimp only; rw [h2]
        unfold stepOp
        rw [offOk_p, hof, if_pos rfl, hfo]
        unfold stepOp0
        rw [hop]
        dsimp only
        rw [hra, hv2 h2, hd]
        dsimp only
        rw [if_pos hm, hr2]
        rfl
       ·rename_i hm
        injection h with h; injection h with h; subst h
        refine ⟨cs, cs, rfl, (set_self' h0).symm, fun σ2 h2 => ?_⟩
        unfold stepOp
        rw [offOk_p, hof, if_pos rfl, hfo]
        unfold stepOp0
        rw [hop]
        dsimp only
        rw [hra, hv2 h2, hd]
        dsimp only
        rw [if_neg hm, set_self' h2]
        rfl
      ·cases h
     | _ => cases hv
   ·cases h
  ·cases ho
 ·cases hk
theorem guard_none' {all : List Oper} {k : Nat} (h : clsK c.h o = some k ∨ clsF c.h o = some k) (s : S) : stepG c all o s = stepOp c o s := by
 have hg : o.guard = none := by
  rcases h with h | h
  ·unfold clsK at h
   split at h
   ·assumption
   ·cases h
  ·unfold clsF at h
   split at h
   ·assumption
   ·cases h
 unfold stepG guardOf
 rw [hg]
theorem fkK_some {a b : Option Nat} (h : fkK a b = true) : ∃ k, a = some k ∧ b = some k := by
 cases a with
 | none => cases h
 | some k =>
  cases b with
  | none => cases h
  | some k' => exact ⟨k, rfl, by simp [fkK] at h; rw [h]⟩
theorem commute_fr {x y : Oper} {all : List Oper} {s s1 s2 : S} (hp : ((fkK (clsF c.h x) (clsK c.h y) || fkK (clsF c.h y) (clsK c.h x)) && disB (rOf x) (wOf c.h x) (rOf y) (wOf c.h y)) = true)
 (h1 : stepG c all x s = some (.ok s1)) (h2 : stepG c all y s1 = some (.ok s2)) : ∃ s1' s2', stepG c all y s = some (.ok s1') ∧ stepG c all x s1' = some (.ok s2') ∧ Eqv s2 s2' := by
 unfold disB at hp
 simp only [Bool.and_eq_true, Bool.or_eq_true, List.all_eq_true, Bool.not_eq_true', List.contains_eq_mem, decide_eq_false_iff_not] at hp
 obtain ⟨hcls, hxy, hyx⟩ := hp
 have loc : ∀ {o : Oper} {s s' s1 : S}, s'.σ = s.σ → (∀ t, t ∈ rOf o → get s'.env t = get s.env t) → stepOp c o s = some (.ok s1) → ∃ s1', stepOp c o s' = some (.ok s1') ∧ Moved (wOf c.h o) s s' s1 s1' :=
  fun hσ hs h => stepOp_local hσ (fun t ht => hs t (rOf_mem ht)) h
 have fin : (∀ s, stepG c all x s = stepOp c x s) → (∀ s, stepG c all y s = stepOp c y s) → ∀ (σA : List AObj), stepOp c y { s1 with σ := s.σ } = some (.ok { s2 with σ := σA }) → stepOp c x { s with σ := σA } = some (.ok { s1 with σ := s2.σ }) → ∃ s1' s2', stepG c all y s = some (.ok s1') ∧ stepG c all x s1' = some (.ok s2') ∧ Eqv s2 s2' := by
  intro gx gy σA hY hX
  obtain ⟨_, _, mx⟩ := loc rfl (fun _ _ => rfl) (by rw [gx] at h1; exact h1)
  obtain ⟨s1', h3, m1⟩ := loc (o := y) (s := { s1 with σ := s.σ }) (s' := s) rfl (fun t ht => ((mx.out t (fun e => (hxy t e).1 ht)).1).symm) hY
  obtain ⟨s2', h5, m2⟩ := loc (o := x) (s := { s with σ := σA }) (s' := s1') m1.σ (fun t ht => (m1.out t (fun e => hyx t e ht)).2) hX
  refine ⟨s1', s2', by rw [gy]; exact h3, by rw [gx]; exact h5, fun t => ?_, m2.σ⟩
  by_cases hx : t ∈ wOf c.h x
  ·rw [m2.inn t hx]
   exact ((m1.out t (hxy t hx).2).1).symm
  ·rw [(m2.out t hx).2]
   by_cases hy : t ∈ wOf c.h y
   ·exact m1.inn t hy
   ·rw [(m1.out t hy).2, ← (mx.out t hx).1]
    exact ((m1.out t hy).1).symm
 rcases hcls with hcls | hcls
 ·obtain ⟨k, e1, e2⟩ := fkK_some hcls
  have gx := guard_none' (all := all) (.inr e1)
  have gy := guard_none' (all := all) (.inl e2)
  rw [gx] at h1
  rw [gy] at h2
  obtain ⟨cs, q0, q1, hF⟩ := clsF_ok e1 h1
  obtain ⟨cs2, cs', q2, q3, hK⟩ := clsK_ok e2 h2
  rw [q1] at q2; injection q2 with q2; injection q2 with q2; subst q2
  refine fin gx gy (s.σ.set (frId c.base k) (.cells cs')) (hK _ q0) ?_
  rw [hF cs', q3]
 ·obtain ⟨k, e1, e2⟩ := fkK_some hcls
  have gx := guard_none' (all := all) (.inl e2)
  have gy := guard_none' (all := all) (.inr e1)
  rw [gx] at h1
  rw [gy] at h2
  obtain ⟨cs, cs', q0, q1, hK⟩ := clsK_ok e2 h1
  obtain ⟨cs2, q2, q3, hF⟩ := clsF_ok e1 h2
  have l0 := (List.getElem?_eq_some_iff.1 q0).1
  rw [q1, List.getElem?_set_self l0] at q2
  injection q2 with q2; injection q2 with q2; subst q2
  have hY := hF cs
  rw [q1, List.set_set, set_self' q0] at hY
  refine fin gx gy _ hY ?_
  rw [hK _ (List.getElem?_set_self (List.getElem?_eq_some_iff.1 q3).1), List.set_set, set_self' q3]
theorem setCells_one {cs : List AV} {off : Nat} {v : AV} (h : off < cs.length) : setCells cs off [v] = cs.set off v := by
 unfold setCells
 rw [List.set_eq_take_append_cons_drop, if_pos h]
 simp
theorem clsC_ok {k off : Nat} (hk : clsC c.h o = some (k, off)) (h : stepOp c o s = some (.ok s1)) :
 ∃ cs v', s.σ[frId c.base k]? = some (.cells cs) ∧ s1.σ = s.σ.set (frId c.base k) (.cells (cs.set off v')) ∧ ∀ (σ2 : List AObj) cs2, σ2[frId c.base k]? = some (.cells cs2) → cs2[off]? = cs[off]? → stepOp c o { s with σ := σ2 } = some (.ok { s1 with σ := σ2.set (frId c.base k) (.cells (cs2.set off v')) }) := by
 obtain ⟨ho, h⟩ := stepOp_of h
 unfold clsC at hk
 split at hk
 ·rename_i t a hop _
  have hfo : ∀ s, stepOp0 (c.frm o) o s = stepOp0 c o s := fun s => frm_op (by rw [hop]; trivial) s
  rw [hfo] at h
  have hof := ho
  split at hk
  case h_2 => cases hk
  rename_i k1 off1 hlm hlo
  injection hk with hk; injection hk with e1 e2
  subst e1; subst e2
  unfold offOk at ho
  rw [hop] at ho
  have ho : (offAt c.T t (rd c.T s.env a) (loOf c.h o.dst) && lmAt c.base (rd c.T s.env a) (lmOf c.h o.dst)) = true := ho
  rw [hlm, hlo] at ho
  unfold offAt oneCell lmAt at ho
  simp only [Bool.and_eq_true, beq_iff_eq] at ho
  obtain ⟨⟨ha, hag, _⟩, ho⟩ := ho
  unfold stepOp0 at h
  rw [hop] at h
  dsimp only at h
  generalize hra : rd c.T s.env a = ra at h ho ha
  split at ho
  ·rename_i id off2
   have hid : id = frId c.base k1 := by simpa using ho
   subst hid
   unfold atK at ha
   have hoff : off2 = off1 := by simpa using ha
   subst hoff
   split at h
   ·rename_i v hv
    unfold loadV readAt at hv
    dsimp only at hv
    cases h0 : s.σ[frId c.base k1]? with
    | none => rw [h0] at hv; cases hv
    | some ob =>
     rw [h0] at hv
     cases ob with
     | cells cs =>
      dsimp only at hv
      unfold pickAgg at hv
      rw [hag] at hv
      dsimp only at hv
      have hlt := (List.getElem?_eq_some_iff.1 hv).1
      have hv2 : ∀ {σ2 : List AObj} {cs2 : List AV}, σ2[frId c.base k1]? = some (.cells cs2) → cs2[off2]? = cs[off2]? → loadV c.T σ2 t (.ptr (frId c.base k1) off2) = some v := fun {σ2 cs2} h2 h3 => by
       unfold loadV readAt
       dsimp only
       rw [h2]
       dsimp only
       unfold pickAgg
       rw [hag]
       dsimp only
       rw [h3]; exact hv
      split at h
      ·rename_i d hd
       split at h
       ·rename_i hm
        have hr1 : readAt s.σ (.ptr (frId c.base k1) off2) = some (cs, off2) := by unfold readAt; dsimp only; rw [h0]
        rw [hr1] at h
        dsimp only at h
        injection h with h; injection h with h; subst h
        refine ⟨cs, copyV v, rfl, by rw [← setCells_one hlt]; rfl, fun σ2 cs2 h2 h3 => ?_⟩
        have hr2 : readAt σ2 (.ptr (frId c.base k1) off2) = some (cs2, off2) := by unfold readAt; dsimp only; rw [h2]
        have hlt2 : off2 < cs2.length := by rw [← h3] at hv; exact (List.getElem?_eq_some_iff.1 hv).1
        unfold stepOp
        rw [offOk_p, hof, if_pos rfl, hfo]
        unfold stepOp0
        rw [hop]
        dsimp only
        rw [hra, hv2 h2 h3, hd]
        dsimp only
        rw [if_pos hm, hr2]
        dsimp only
        rw [setCells_one hlt2]
        rfl
       ·rename_i hm
        injection h with h; injection h with h; subst h
        have sv : ∀ {cs2 : List AV}, cs2[off2]? = cs[off2]? → cs2.set off2 v = cs2 := fun {cs2} h3 => by
         rw [hv] at h3
         refine List.ext_getElem? fun i => ?_
         by_cases e : off2 = i
         ·subst e; rw [List.getElem?_set_self (List.getElem?_eq_some_iff.1 h3).1, h3]
         ·rw [List.getElem?_set_ne e]
        refine ⟨cs, v, rfl, by rw [sv rfl]; exact (set_self' h0).symm, fun σ2 cs2 h2 h3 => ?_⟩
        unfold stepOp
        rw [offOk_p, hof, if_pos rfl, hfo]
        unfold stepOp0
        rw [hop]
        dsimp only
        rw [hra, hv2 h2 h3, hd]
        dsimp only
        rw [if_neg hm, sv h3, set_self' h2]
        rfl
      ·cases h
     | _ => cases hv
   ·cases h
  ·cases ho
 ·cases hk
theorem clsC_g {all : List Oper} {q : Nat × Nat} (h : clsC c.h o = some q) (s : S) : stepG c all o s = stepOp c o s := by
 have hg : o.guard = none := by
  unfold clsC at h
  split at h
  ·assumption
  ·cases h
 unfold stepG guardOf
 rw [hg]
theorem commute_cc {x y : Oper} {all : List Oper} {s s1 s2 : S} (hp : (ccK (clsC c.h x) (clsC c.h y) && disB (rOf x) (wOf c.h x) (rOf y) (wOf c.h y)) = true)
 (h1 : stepG c all x s = some (.ok s1)) (h2 : stepG c all y s1 = some (.ok s2)) : ∃ s1' s2', stepG c all y s = some (.ok s1') ∧ stepG c all x s1' = some (.ok s2') ∧ Eqv s2 s2' := by
 unfold disB at hp
 simp only [Bool.and_eq_true, List.all_eq_true, Bool.not_eq_true', List.contains_eq_mem, decide_eq_false_iff_not] at hp
 obtain ⟨hcls, hxy, hyx⟩ := hp
 cases hx0 : clsC c.h x with
 | none => rw [hx0] at hcls; cases hcls
 | some qx =>
 cases hy0 : clsC c.h y with
 | none => rw [hx0, hy0] at hcls; cases hcls
 | some qy =>
 obtain ⟨k, ox⟩ := qx
 obtain ⟨k', oy⟩ := qy
 rw [hx0, hy0] at hcls
 unfold ccK at hcls
 simp only [Bool.and_eq_true, beq_iff_eq, bne_iff_ne] at hcls
 obtain ⟨hkk, hne⟩ := hcls
 subst hkk
 have gx := clsC_g (all := all) hx0
 have gy := clsC_g (all := all) hy0
 rw [gx] at h1
 rw [gy] at h2
 have loc : ∀ {o : Oper} {s s' s1 : S}, s'.σ = s.σ → (∀ t, t ∈ rOf o → get s'.env t = get s.env t) → stepOp c o s = some (.ok s1) → ∃ s1', stepOp c o s' = some (.ok s1') ∧ Moved (wOf c.h o) s s' s1 s1' :=
  fun hσ hs h => stepOp_local hσ (fun t ht => hs t (rOf_mem ht)) h
 obtain ⟨cs, v1, q0, q1, hX⟩ := clsC_ok hx0 h1
 obtain ⟨cs2, v2, q2, q3, hY⟩ := clsC_ok hy0 h2
 have l0 := (List.getElem?_eq_some_iff.1 q0).1
 rw [q1, List.getElem?_set_self l0] at q2
 injection q2 with q2; injection q2 with q2; subst q2
 have hYs := hY s.σ cs q0 (by rw [List.getElem?_set_ne hne])
 have hXs := hX (s.σ.set (frId c.base k) (.cells (cs.set oy v2))) (cs.set oy v2) (List.getElem?_set_self l0) (by rw [List.getElem?_set_ne (Ne.symm hne)])
 rw [List.set_set, List.set_comm _ _ (Ne.symm hne)] at hXs
 have e2 : s2.σ = s.σ.set (frId c.base k) (.cells ((cs.set ox v1).set oy v2)) := by rw [q3, q1, List.set_set]
 rw [← e2] at hXs
 obtain ⟨_, _, mx⟩ := loc rfl (fun _ _ => rfl) h1
 obtain ⟨s1', h3, m1⟩ := loc (o := y) (s := { s1 with σ := s.σ }) (s' := s) rfl (fun t ht => ((mx.out t (fun e => (hxy t e).1 ht)).1).symm) hYs
 obtain ⟨s2', h5, m2⟩ := loc (o := x) (s := { s with σ := s.σ.set (frId c.base k) (.cells (cs.set oy v2)) }) (s' := s1') m1.σ (fun t ht => (m1.out t (fun e => hyx t e ht)).2) hXs
 refine ⟨s1', s2', by rw [gy]; exact h3, by rw [gx]; exact h5, fun t => ?_, m2.σ⟩
 by_cases hx : t ∈ wOf c.h x
 ·rw [m2.inn t hx]
  exact ((m1.out t (hxy t hx).2).1).symm
 ·rw [(m2.out t hx).2]
  by_cases hy : t ∈ wOf c.h y
  ·exact m1.inn t hy
  ·rw [(m1.out t hy).2, ← (mx.out t hx).1]
   exact ((m1.out t hy).1).symm
theorem clsZ_ok (hk : clsZ c.h o = true) (h : stepOp c o s = some (.ok s1)) :
 ∃ j g sz rows, s.σ[j]? = some (.arr g sz rows) ∧ s1.σ = s.σ.set j .gone ∧ ∀ σ2 : List AObj, σ2[j]? = s.σ[j]? → stepOp c o { s with σ := σ2 } = some (.ok { s1 with σ := σ2.set j .gone }) := by
 obtain ⟨ho, h⟩ := stepOp_of h
 unfold clsZ at hk
 split at hk
 ·rename_i x hop _
  have hfo : ∀ s, stepOp0 (c.frm o) o s = stepOp0 c o s := fun s => by
   unfold stepOp0
   rw [hop]
   rfl
  rw [hfo] at h
  unfold fzO at hk
  split at hk
  ·rename_i d hd
   unfold stepOp0 at h
   rw [hop] at h
   dsimp only at h
   rw [hd] at h
   dsimp only at h
   rw [if_pos hk] at h
   unfold frzV at h
   split at h
   ·rename_i id g q off len hv
    split at h
    ·rename_i hb
     cases h0 : s.σ[id]? with
     | none => rw [h0] at h; cases h
     | some ob =>
      rw [h0] at h
      cases ob with
      | arr g' sz rows =>
       dsimp only at h
       split at h
       ·rename_i hgl
        cases hr : allRows (copyR ((rows.drop off).take len)) with
        | none => rw [hr] at h; cases h
        | some l =>
         rw [hr] at h
         unfold frzR at h
         injection h with h; injection h with h; subst h
         refine ⟨id, g', sz, rows, h0, rfl, fun σ2 h2 => ?_⟩
         rw [h0] at h2
         unfold stepOp
         rw [offOk_p, ho, if_pos rfl, hfo]
         unfold stepOp0
         rw [hop]
         dsimp only
         rw [hd]
         dsimp only
         rw [if_pos hk]
         unfold frzV
         rw [hv]
         dsimp only
         rw [if_pos hb, h2]
         dsimp only
         rw [if_pos hgl, hr]
         rfl
       ·cases h
      | _ => cases h
    ·cases h
   ·cases h
  ·cases hk
 ·cases hk
theorem clsZ_g {all : List Oper} (h : clsZ c.h o = true) (s : S) : stepG c all o s = stepOp c o s := by
 have hg : o.guard = none := by
  unfold clsZ at h
  split at h
  ·assumption
  ·cases h
 unfold stepG guardOf
 rw [hg]
theorem zkK_some {a : Bool} {b : Option Nat} (h : zkK a b = true) : a = true ∧ ∃ k, b = some k := by
 cases a with
 | false => cases h
 | true =>
  cases b with
  | none => cases h
  | some k => exact ⟨rfl, k, rfl⟩
theorem commute_zk {x y : Oper} {all : List Oper} {s s1 s2 : S} (hp : ((zkK (clsZ c.h x) (clsK c.h y) || zkK (clsZ c.h y) (clsK c.h x)) && disB (rOf x) (wOf c.h x) (rOf y) (wOf c.h y)) = true)
 (h1 : stepG c all x s = some (.ok s1)) (h2 : stepG c all y s1 = some (.ok s2)) : ∃ s1' s2', stepG c all y s = some (.ok s1') ∧ stepG c all x s1' = some (.ok s2') ∧ Eqv s2 s2' := by
 unfold disB at hp
 simp only [Bool.and_eq_true, Bool.or_eq_true, List.all_eq_true, Bool.not_eq_true', List.contains_eq_mem, decide_eq_false_iff_not] at hp
 obtain ⟨hcls, hxy, hyx⟩ := hp
 have loc : ∀ {o : Oper} {s s' s1 : S}, s'.σ = s.σ → (∀ t, t ∈ rOf o → get s'.env t = get s.env t) → stepOp c o s = some (.ok s1) → ∃ s1', stepOp c o s' = some (.ok s1') ∧ Moved (wOf c.h o) s s' s1 s1' :=
  fun hσ hs h => stepOp_local hσ (fun t ht => hs t (rOf_mem ht)) h
 have fin : (∀ s, stepG c all x s = stepOp c x s) → (∀ s, stepG c all y s = stepOp c y s) → ∀ (σA : List AObj), stepOp c y { s1 with σ := s.σ } = some (.ok { s2 with σ := σA }) → stepOp c x { s with σ := σA } = some (.ok { s1 with σ := s2.σ }) → ∃ s1' s2', stepG c all y s = some (.ok s1') ∧ stepG c all x s1' = some (.ok s2') ∧ Eqv s2 s2' := by
  intro gx gy σA hY hX
  obtain ⟨_, _, mx⟩ := loc rfl (fun _ _ => rfl) (by rw [gx] at h1; exact h1)
  obtain ⟨s1', h3, m1⟩ := loc (o := y) (s := { s1 with σ := s.σ }) (s' := s) rfl (fun t ht => ((mx.out t (fun e => (hxy t e).1 ht)).1).symm) hY
  obtain ⟨s2', h5, m2⟩ := loc (o := x) (s := { s with σ := σA }) (s' := s1') m1.σ (fun t ht => (m1.out t (fun e => hyx t e ht)).2) hX
  refine ⟨s1', s2', by rw [gy]; exact h3, by rw [gx]; exact h5, fun t => ?_, m2.σ⟩
  by_cases hx : t ∈ wOf c.h x
  ·rw [m2.inn t hx]
   exact ((m1.out t (hxy t hx).2).1).symm
  ·rw [(m2.out t hx).2]
   by_cases hy : t ∈ wOf c.h y
   ·exact m1.inn t hy
   ·rw [(m1.out t hy).2, ← (mx.out t hx).1]
    exact ((m1.out t hy).1).symm
 rcases hcls with hcls | hcls
 ·obtain ⟨e1, k, e2⟩ := zkK_some hcls
  have gx := clsZ_g (all := all) e1
  have gy := guard_none' (all := all) (.inl e2)
  rw [gx] at h1
  rw [gy] at h2
  obtain ⟨j, g, sz, rows, q0, q1, hZ⟩ := clsZ_ok e1 h1
  obtain ⟨cs, cs', q2, q3, hK⟩ := clsK_ok e2 h2
  have hne : j ≠ frId c.base k := fun e => by
   rw [q1, e, List.getElem?_set_self (e ▸ (List.getElem?_eq_some_iff.1 q0).1)] at q2
   cases q2
  rw [q1, List.getElem?_set_ne hne] at q2
  refine fin gx gy _ (hK _ q2) ?_
  rw [hZ _ (List.getElem?_set_ne (Ne.symm hne)), List.set_comm _ _ (Ne.symm hne), ← q1, ← q3]
 ·obtain ⟨e1, k, e2⟩ := zkK_some hcls
  have gx := guard_none' (all := all) (.inl e2)
  have gy := clsZ_g (all := all) e1
  rw [gx] at h1
  rw [gy] at h2
  obtain ⟨cs, cs', q0, q1, hK⟩ := clsK_ok e2 h1
  obtain ⟨j, g, sz, rows, q2, q3, hZ⟩ := clsZ_ok e1 h2
  have hne : j ≠ frId c.base k := fun e => by
   rw [q1, e, List.getElem?_set_self (List.getElem?_eq_some_iff.1 q0).1] at q2
   cases q2
  have q4 : s.σ[j]? = s1.σ[j]? := by rw [q1, List.getElem?_set_ne (Ne.symm hne)]
  refine fin gx gy _ (hZ _ q4) ?_
  rw [hK _ (by rw [List.getElem?_set_ne hne]; exact q0), List.set_comm _ _ hne, ← q1, ← q3]
theorem clsRm_set (hr : clsRm c.H o = true) (h : stepOp c o s = some (.ok s1)) (σ2 : List AObj) (hσ : ∀ (i : Nat) g sz rows, s.σ[i]? = some (.arr g sz rows) → σ2[i]? = some (.arr g sz rows)) : stepOp c o { s with σ := σ2 } = some (.ok { s1 with σ := σ2 }) ∧ s1.σ = s.σ :=
 ⟨wrap h rfl fun h => (clsRm_set0 (c := c.frm o) hr h σ2 hσ).1, (clsRm_set0 (c := c.frm o) hr (stepOp_of h).2 σ2 hσ).2⟩
theorem clsRmG_set {all : List Oper} (hr : clsRm c.H o = true) (h : stepG c all o s = some (.ok s1)) (σ2 : List AObj) (hσ : ∀ (i : Nat) g sz rows, s.σ[i]? = some (.arr g sz rows) → σ2[i]? = some (.arr g sz rows)) : stepG c all o { s with σ := σ2 } = some (.ok { s1 with σ := σ2 }) ∧ s1.σ = s.σ := by
 unfold stepG at h ⊢
 dsimp only
 split at h
 ·cases h
 ·exact clsRm_set hr h σ2 hσ
 ·split at h
  ·rename_i hb; rw [if_pos hb]; exact clsRm_set hr h σ2 hσ
  ·rename_i hb; rw [if_neg hb]
   injection h with h; injection h with h; subst h; exact ⟨rfl, rfl⟩
theorem act_g (c : Cx) (all : List Oper) (o : Oper) (hd : ∀ d, o.dst = some d → d ∈ wOf c.h o) : Act1 (gOf all o ++ rOf o) (wOf c.h o) (clsP c.H c.h o) (clsR c.h o || clsRc c.H o) (clsN c.h o) (clsL c.h o) (clsM c.H o) (stepG c all o) := by
 have A := act_op c o
 refine ⟨fun s s' s1 hσ hs h => ?_, fun hp s s1 σ2 h => ?_, fun hr s s1 ob h => ?_, fun hn s s1 h => ?_, fun hl s s1 σ2 hs h => ?_, fun hm s s1 h => ?_⟩
 ·have hg := guard_same (all := all) (o := o) (env := s.env) (env' := s'.env) (fun t ht => hs t (List.mem_append_left _ ht))
  have hop := fun h => A.loc s s' s1 hσ (fun t ht => hs t (List.mem_append_right _ ht)) h
  unfold stepG at h ⊢
  rw [hg]
  split at h
  ·cases h
  ·exact hop h
  ·split at h
   ·rename_i hb
    rw [if_pos hb]; exact hop h
   ·rename_i hb
    rw [if_neg hb]
    injection h with h; injection h with h; subst h
    have hm := Moved.put (s := s) (s' := s') (d := o.dst) (v := udV) hσ
    refine ⟨_, rfl, ⟨hm.σ, fun t ht => ?_, fun t ht => ?_⟩⟩
    ·by_cases h1 : t ∈ o.dst.toList
     ·exact hm.inn t h1
     ·obtain ⟨a, b⟩ := hm.out t h1
      rw [a, b]
      exact hs t (List.mem_append_right _ ((wOf_sub ht).resolve_left h1))
    ·refine hm.out t (fun h1 => ht ?_)
     cases hdd : o.dst with
     | none => rw [hdd] at h1; simp at h1
     | some d => rw [hdd] at h1; simp at h1; subst h1; exact hd _ hdd
 ·unfold stepG at h ⊢
  dsimp only
  split at h
  ·cases h
  ·exact A.p hp _ _ σ2 h
  ·split at h
   ·rename_i hb; rw [if_pos hb]; exact A.p hp _ _ σ2 h
   ·rename_i hb; rw [if_neg hb]
    injection h with h; injection h with h; subst h; exact ⟨rfl, rfl⟩
 ·unfold stepG at h ⊢
  dsimp only
  split at h
  ·cases h
  ·exact A.r hr _ _ ob h
  ·split at h
   ·rename_i hb; rw [if_pos hb]; exact A.r hr _ _ ob h
   ·rename_i hb; rw [if_neg hb]
    injection h with h; injection h with h; subst h; exact ⟨rfl, rfl⟩
 ·unfold stepG at h
  split at h
  ·cases h
  ·exact A.n hn _ _ h
  ·split at h
   ·exact A.n hn _ _ h
   ·injection h with h; injection h with h; subst h; exact ⟨[], by simp [S.put]⟩
 ·unfold stepG at h ⊢
  dsimp only
  split at h
  ·cases h
  ·exact A.l hl _ _ σ2 hs h
  ·split at h
   ·rename_i hb; rw [if_pos hb]; exact A.l hl _ _ σ2 hs h
   ·rename_i hb; rw [if_neg hb]
    injection h with h; injection h with h; subst h; exact ⟨rfl, rfl⟩
 ·unfold stepG at h
  split at h
  ·cases h
  ·exact A.m hm _ _ h
  ·split at h
   ·exact A.m hm _ _ h
   ·injection h with h; injection h with h; subst h; exact SimC.refl _
theorem commute_rk {x y : Oper} {all : List Oper} {s s1 s2 : S} (hdx : ∀ d, x.dst = some d → d ∈ wOf c.h x) (hdy : ∀ d, y.dst = some d → d ∈ wOf c.h y) (hp : ((zkK (clsRm c.H x) (clsK c.h y) || zkK (clsRm c.H y) (clsK c.h x)) && disB (gOf all x ++ rOf x) (wOf c.h x) (gOf all y ++ rOf y) (wOf c.h y)) = true)
 (h1 : stepG c all x s = some (.ok s1)) (h2 : stepG c all y s1 = some (.ok s2)) : ∃ s1' s2', stepG c all y s = some (.ok s1') ∧ stepG c all x s1' = some (.ok s2') ∧ Eqv s2 s2' := by
 unfold disB at hp
 simp only [Bool.and_eq_true, Bool.or_eq_true, List.all_eq_true, Bool.not_eq_true', List.contains_eq_mem, decide_eq_false_iff_not] at hp
 obtain ⟨hcls, hxy, hyx⟩ := hp
 have X := act_g c all x hdx
 have Y := act_g c all y hdy
 have fin : ∀ (σA : List AObj), stepG c all y { s1 with σ := s.σ } = some (.ok { s2 with σ := σA }) → stepG c all x { s with σ := σA } = some (.ok { s1 with σ := s2.σ }) → ∃ s1' s2', stepG c all y s = some (.ok s1') ∧ stepG c all x s1' = some (.ok s2') ∧ Eqv s2 s2' := by
  intro σA hY hX
  obtain ⟨_, h0, mx⟩ := X.loc s s s1 rfl (fun _ _ => rfl) h1
  rw [h1] at h0; injection h0 with h0; injection h0 with h0; subst h0
  obtain ⟨s1', h3, m1⟩ := Y.loc { s1 with σ := s.σ } s _ rfl (fun t ht => ((mx.out t (fun e => (hxy t e).1 ht)).1).symm) hY
  obtain ⟨s2', h5, m2⟩ := X.loc { s with σ := σA } s1' _ m1.σ (fun t ht => (m1.out t (fun e => hyx t e ht)).2) hX
  refine ⟨s1', s2', h3, h5, fun t => ?_, m2.σ⟩
  by_cases hx : t ∈ wOf c.h x
  ·rw [m2.inn t hx]
   exact ((m1.out t (hxy t hx).2).1).symm
  ·rw [(m2.out t hx).2]
   by_cases hy : t ∈ wOf c.h y
   ·exact m1.inn t hy
   ·rw [(m1.out t hy).2, ← (mx.out t hx).1]
    exact ((m1.out t hy).1).symm
 rcases hcls with hcls | hcls
 ·obtain ⟨e1, k, e2⟩ := zkK_some hcls
  have gy := guard_none' (all := all) (.inl e2)
  have hσ := (clsRmG_set e1 h1 s.σ (fun _ _ _ _ h => h)).2
  rw [gy] at h2
  obtain ⟨cs, cs', q2, q3, hK⟩ := clsK_ok e2 h2
  rw [hσ] at q2 q3
  refine fin _ (by rw [gy]; exact hK _ q2) ?_
  rw [q3]
  refine (clsRmG_set e1 h1 _ fun i g sz rows h => ?_).1
  rw [List.getElem?_set_ne (fun e => by rw [← e, q2] at h; cases h)]; exact h
 ·obtain ⟨e1, k, e2⟩ := zkK_some hcls
  have gx := guard_none' (all := all) (.inl e2)
  rw [gx] at h1
  obtain ⟨cs, cs', q0, q1, hK⟩ := clsK_ok e2 h1
  have hσ := (clsRmG_set e1 h2 s1.σ (fun _ _ _ _ h => h)).2
  have hY := (clsRmG_set e1 h2 s.σ fun i g sz rows h => by
   rw [q1] at h
   by_cases e : frId c.base k = i
   ·subst e
    rw [List.getElem?_set_self (List.getElem?_eq_some_iff.1 q0).1] at h
    cases h
   ·rw [List.getElem?_set_ne e] at h; exact h).1
  refine fin s.σ hY ?_
  rw [gx, hσ]; exact h1
end
end Go.AM
