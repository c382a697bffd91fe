/- A part of the abstract machine and its simulation. -/
import Derived.Test.YtbalikooghpmlaaDoorAmRet
set_option linter.unusedVariables false
set_option linter.unusedSimpArgs false
namespace Go.AM
open Go
def Same (xs : List Operand) (env env' : Env) : Prop := ∀ t : Nat, Operand.tmp t ∈ xs → get env' t = get env t
structure Moved (W : List Nat) (s s' s1 s1' : S) : Prop where
 σ : s1'.σ = s1.σ
 inn : ∀ t, t ∈ W → get s1'.env t = get s1.env t
 out : ∀ t, t ∉ W → get s1.env t = get s.env t ∧ get s1'.env t = get s'.env t
theorem rd_same {T : Tab} {xs : List Operand} {env env' : Env} (h : Same xs env env') {x : Operand} (hx : x ∈ xs) : rd T env' x = rd T env x := by
 cases x with
 | tmp t => exact h t hx
 | _ => rfl
theorem rdc_same {T : Tab} {xs : List Operand} {env env' : Env} (h : Same xs env env') {x : Operand} (hx : x ∈ xs) : rdc T env' x = rdc T env x := by
 unfold rdc; rw [rd_same h hx]
theorem rdB_same {T : Tab} {xs : List Operand} {env env' : Env} (h : Same xs env env') {x : Operand} (hx : x ∈ xs) : rdB T env' x = rdB T env x := by
 unfold rdB; rw [rd_same h hx]
theorem mvV_same {T : Tab} {h' : FH} {xs : List Operand} {env env' : Env} (h : Same xs env env') {x : Operand} (hx : x ∈ xs) : mvV T h' env' x = mvV T h' env x := by
 unfold mvV; rw [rd_same h hx, rdc_same h hx]
theorem Moved.put' {s s' a a' : S} {d : Option Nat} {v : AV} (ha : a.env = s.env) (ha' : a'.env = s'.env) (hσ : a'.σ = a.σ) : Moved d.toList s s' (a.put d v) (a'.put d v) := by
 refine ⟨hσ, fun t ht => ?_, fun t ht => ?_⟩
 ·cases d with
  | none => simp at ht
  | some d =>
   simp at ht; subst ht
   simp [S.put, putE, get]
 ·cases d with
  | none => exact ⟨by simp [S.put, putE, ha], by simp [S.put, putE, ha']⟩
  | some d =>
   simp at ht
   simp [S.put, putE, get, Ne.symm ht, ha, ha']
theorem Moved.put {s s' : S} {d : Option Nat} {v : AV} (hσ : s'.σ = s.σ) : Moved d.toList s s' (s.put d v) (s'.put d v) := Moved.put' rfl rfl hσ
theorem Moved.strip {h : FH} {s s' : S} {x : Operand} (hs : Same [x] s.env s'.env) {d : Option Nat} {v : AV} {σ : List AObj} : Moved (d.toList ++ hands h x) s s' (({ s.stripM h x with σ := σ } : S).put d v) (({ s'.stripM h x with σ := σ } : S).put d v) := by
 have hst : ∀ t, (t ∈ hands h x → get (AM.stripM h s'.env x) t = get (AM.stripM h s.env x) t) ∧ (t ∉ hands h x → get (AM.stripM h s.env x) t = get s.env t ∧ get (AM.stripM h s'.env x) t = get s'.env t) := by
  intro t
  unfold hands AM.stripM
  split
  ·exact ⟨fun h => by simp at h, fun _ => ⟨rfl, rfl⟩⟩
  ·cases x with
   | tmp u =>
    have hu := hs u (by simp)
    refine ⟨fun ht => ?_, fun ht => ?_⟩
    ·simp at ht; subst ht
     rw [get_strip, get_strip, if_pos rfl, if_pos rfl, hu]
    ·simp at ht
     rw [get_strip, get_strip, if_neg ht, if_neg ht]; exact ⟨rfl, rfl⟩
   | _ => exact ⟨fun ht => by simp at ht, fun _ => ⟨rfl, rfl⟩⟩
 have hg : ∀ (s : S) t, get (({ s.stripM h x with σ := σ } : S).put d v).env t = if d = some t then v else get (AM.stripM h s.env x) t := by
  intro s t
  cases d with
  | none => rfl
  | some d => simp [S.put, putE, get, S.stripM]
 refine ⟨rfl, fun t ht => ?_, fun t ht => ?_⟩
 ·rw [hg, hg]
  split
  ·rfl
  ·rename_i hd
   rcases List.mem_append.1 ht with h1 | h1
   ·exact absurd (by simpa using h1) (fun e => hd (by cases d <;> simp_all))
   ·exact (hst t).1 h1
 ·rw [hg, hg]
  have h1 : t ∉ d.toList := fun e => ht (List.mem_append_left _ e)
  have h2 : t ∉ hands h x := fun e => ht (List.mem_append_right _ e)
  have hd : ¬ d = some t := fun e => h1 (by simp [e])
  rw [if_neg hd, if_neg hd]
  exact (hst t).2 h2
theorem Moved.le {W W' : List Nat} {s s' s1 s1' : S} (h : Moved W s s' s1 s1') (hW : ∀ t, t ∈ W → t ∈ W') (hs : ∀ t, t ∈ W' → t ∉ W → get s'.env t = get s.env t) : Moved W' s s' s1 s1' := by
 refine ⟨h.σ, fun t ht => ?_, fun t ht => h.out t (fun e => ht (hW t e))⟩
 by_cases hw : t ∈ W
 ·exact h.inn t hw
 ·obtain ⟨a, b⟩ := h.out t hw
  rw [a, b]; exact hs t ht hw
section
variable {c : Cx} {o : Oper} {s s' s1 : S}
theorem local_build (hσ : s'.σ = s.σ) {t : TypeId} {ps : Array (Nat × Operand)} (ho : o.op = .build t ps) (hs : Same o.op.operands.toList s.env s'.env) (h : stepOp0 c o s = some (.ok s1)) : ∃ s1', stepOp0 c o s' = some (.ok s1') ∧ Moved o.dst.toList s s' s1 s1' := by
 have e : (ps.toList.map fun p => (p.1, rdB c.T s'.env p.2)) = (ps.toList.map fun p => (p.1, rdB c.T s.env p.2)) := by
  refine List.map_congr_left fun p hp => ?_
  rw [rdB_same hs (x := p.2) (by rw [ho]; simp [Op.operands]; exact ⟨p.1, by simpa using hp⟩)]
 unfold stepOp0 at h ⊢
 rw [ho] at h ⊢
 dsimp only at h ⊢
 rw [e]
 split at h
 ·cases h
 ·rename_i hb
  rw [if_neg hb]
  split at h
  ·injection h with h; injection h with h; subst h
   exact ⟨_, rfl, Moved.put hσ⟩
  ·cases h
theorem local_buildSlice (hσ : s'.σ = s.σ) {t : TypeId} {n : Nat} {ps : Array (Nat × Operand)} (ho : o.op = .buildSlice t n ps) (hs : Same o.op.operands.toList s.env s'.env) (h : stepOp0 c o s = some (.ok s1)) : ∃ s1', stepOp0 c o s' = some (.ok s1') ∧ Moved o.dst.toList s s' s1 s1' := by
 have e : ∀ e, (ps.toList.map fun p => (p.1, copyA (nilX c.T e p.2 (rdc c.T s'.env p.2)))) = (ps.toList.map fun p => (p.1, copyA (nilX c.T e p.2 (rdc c.T s.env p.2)))) := by
  intro e
  refine List.map_congr_left fun p hp => ?_
  rw [rdc_same hs (x := p.2) (by rw [ho]; simp [Op.operands]; exact ⟨p.1, by simpa using hp⟩)]
 unfold stepOp0 at h ⊢
 rw [ho] at h ⊢
 dsimp only at h ⊢
 simp only [e, hσ]
 split at h
 ·split at h
  ·split at h
   ·cases h
   ·rename_i hb
    rw [if_neg hb]
    split at h
    ·rename_i h24
     rw [if_pos h24]
     split at h
     ·rename_i hnw
      rw [if_pos hnw]
      injection h with h; injection h with h; subst h
      exact ⟨_, rfl, Moved.put' rfl rfl rfl⟩
     ·rename_i hnw
      rw [if_neg hnw]
      injection h with h; injection h with h; subst h
      exact ⟨_, rfl, Moved.put hσ⟩
    ·cases h
  ·cases h
 ·cases h
theorem local_one (hσ : s'.σ = s.σ) (hs : Same o.op.operands.toList s.env s'.env) (hop : match o.op with | .pick .. | .binOp .. | .unOp .. | .alloc .. | .nilCheck .. | .indexAddr .. | .fieldAddr .. | .field .. | .index .. | .convert .. | .makeInterface .. | .typeAssert .. | .makeSlice .. => True | _ => False) (h : stepOp0 c o s = some (.ok s1)) :
 ∃ s1', stepOp0 c o s' = some (.ok s1') ∧ Moved o.dst.toList s s' s1 s1' := by
 have pr : ∀ {d : Option Nat} {v : Option AV}, putRes s d v = some (.ok s1) → ∃ s1', putRes s' d v = some (.ok s1') ∧ Moved d.toList s s' s1 s1' := by
  intro d v h
  cases v with
  | none => cases h
  | some x => injection h with h; injection h with h; subst h; exact ⟨_, rfl, Moved.put hσ⟩
 unfold stepOp0 at h ⊢
 cases ho : o.op with
 | pick x a b =>
  rw [ho] at h hs
  dsimp only at h ⊢
  rw [rd_same hs (x := x) (by simp [Op.operands]), rdc_same hs (x := a) (by simp [Op.operands]), rdc_same hs (x := b) (by simp [Op.operands])]
  split at h
  ·injection h with h; injection h with h; subst h; exact ⟨_, rfl, Moved.put hσ⟩
  ·cases h
 | binOp op t x y t' =>
  rw [ho] at h hs
  dsimp only at h ⊢
  rw [rd_same hs (x := x) (by simp [Op.operands]), rd_same hs (x := y) (by simp [Op.operands])]
  exact pr h
 | unOp op t x =>
  rw [ho] at h hs
  dsimp only at h ⊢
  rw [rd_same hs (x := x) (by simp [Op.operands])]
  split at h
  ·injection h with h; injection h with h; subst h; exact ⟨_, rfl, Moved.put hσ⟩
  ·injection h with h; injection h with h; subst h; exact ⟨_, rfl, Moved.put hσ⟩
  ·injection h with h; injection h with h; subst h; exact ⟨_, rfl, Moved.put hσ⟩
  ·cases h
 | alloc t =>
  rw [ho] at h hs
  dsimp only at h ⊢
  rw [hσ]
  split at h
  ·rename_i hz
   rw [if_pos hz]
   split at h
   ·split at h
    ·rename_i hf
     rw [if_pos hf]
     injection h with h; injection h with h; subst h; exact ⟨_, rfl, Moved.put' rfl rfl rfl⟩
    ·cases h
   split at h
   ·injection h with h; injection h with h; subst h; exact ⟨_, rfl, Moved.put' rfl rfl rfl⟩
   ·injection h with h; injection h with h; subst h; exact ⟨_, rfl, Moved.put' rfl rfl rfl⟩
  ·cases h
 | nilCheck x =>
  rw [ho] at h hs
  dsimp only at h ⊢
  rw [rd_same hs (x := x) (by simp [Op.operands])]
  split at h <;> first | (injection h with h; injection h with h; subst h; exact ⟨_, rfl, Moved.put hσ⟩) | cases h
 | indexAddr t x y =>
  rw [ho] at h hs
  dsimp only at h ⊢
  rw [rd_same hs (x := x) (by simp [Op.operands]), rd_same hs (x := y) (by simp [Op.operands])]
  split at h
  ·exact pr h
  ·cases h
 | fieldAddr t x f =>
  rw [ho] at h hs
  dsimp only at h ⊢
  rw [rd_same hs (x := x) (by simp [Op.operands])]
  split at h
  ·split at h
   ·rename_i hz
    rw [if_pos hz]
    exact pr h
   ·cases h
  ·cases h
 | field t x f =>
  rw [ho] at h hs
  dsimp only at h ⊢
  rw [rd_same hs (x := x) (by simp [Op.operands])]
  split at h
  ·split at h
   ·split at h
    ·rename_i hz
     rw [if_pos hz]
     split at h
     ·injection h with h; injection h with h; subst h; exact ⟨_, rfl, Moved.put hσ⟩
     ·cases h
    ·cases h
   ·split at h
    ·injection h with h; injection h with h; subst h; exact ⟨_, rfl, Moved.put hσ⟩
    ·cases h
   ·cases h
  ·cases h
 | index t x y =>
  rw [ho] at h hs
  dsimp only at h ⊢
  rw [rd_same hs (x := x) (by simp [Op.operands]), rd_same hs (x := y) (by simp [Op.operands])]
  split at h
  ·split at h
   ·rename_i h0
    rw [if_pos h0]
    split at h
    ·split at h
     ·split at h
      ·injection h with h; injection h with h; subst h; exact ⟨_, rfl, Moved.put hσ⟩
      ·cases h
     ·cases h
    ·split at h
     ·split at h
      ·rename_i hz
       rw [if_pos hz]
       split at h
       ·injection h with h; injection h with h; subst h; exact ⟨_, rfl, Moved.put hσ⟩
       ·cases h
      ·cases h
     ·cases h
    ·cases h
   ·cases h
  ·cases h
 | convert t t' x =>
  rw [ho] at h hs
  dsimp only at h ⊢
  rw [rd_same hs (x := x) (by simp [Op.operands])]
  split at h <;> first | (injection h with h; injection h with h; subst h; exact ⟨_, rfl, Moved.put hσ⟩) | (split at h <;> first | (injection h with h; injection h with h; subst h; exact ⟨_, rfl, Moved.put hσ⟩) | cases h) | cases h
 | typeAssert x t u ok =>
  rw [ho] at h hs
  dsimp only at h ⊢
  rw [rdc_same hs (x := x) (by simp [Op.operands])]
  exact pr h
 | makeInterface t x =>
  rw [ho] at h hs
  dsimp only at h ⊢
  rw [rdc_same hs (x := x) (by simp [Op.operands])]
  split at h
  ·cases h
  ·rename_i hc
   rw [if_neg hc]
   split at h <;> (injection h with h; injection h with h; subst h; exact ⟨_, rfl, Moved.put hσ⟩)
 | makeSlice t x y =>
  rw [ho] at h hs
  dsimp only at h ⊢
  rw [rd_same hs (x := x) (by simp [Op.operands]), rd_same hs (x := y) (by simp [Op.operands]), hσ]
  split at h
  ·split at h
   ·split at h
    ·rename_i hz
     rw [if_pos hz]
     split at h
     ·rename_i hn
      rw [if_pos hn]
      injection h with h; injection h with h; subst h; exact ⟨_, rfl, Moved.put' rfl rfl rfl⟩
     ·rename_i hn
      rw [if_neg hn]
      injection h with h; injection h with h; subst h; exact ⟨_, rfl, Moved.put hσ⟩
    ·cases h
   ·cases h
  ·cases h
 | _ => rw [ho] at hop; exact hop.elim
theorem bnd_same {T : Tab} {xs : List Operand} {env env' : Env} (hs : Same xs env env') {d : Nat} {x : Option Operand} (hx : ∀ y, x = some y → y ∈ xs) : bnd T env' d x = bnd T env d x := by
 cases x with
 | none => rfl
 | some y => unfold bnd; simp only [rd_same hs (hx y rfl)]
theorem local_two (hσ : s'.σ = s.σ) (hs : Same o.op.operands.toList s.env s'.env) (hop : match o.op with | .move .. | .assign .. | .box .. | .load .. | .store .. | .slice .. | .makeFunc .. => True | _ => False) (h : stepOp0 c o s = some (.ok s1)) :
 ∃ s1', stepOp0 c o s' = some (.ok s1') ∧ Moved (wOf c.h o) s s' s1 s1' := by
 have one' : ∀ {x : Operand}, x ∈ o.op.operands.toList → Same [x] s.env s'.env := fun hx t ht => hs t (by simp at ht; rw [ht]; exact hx)
 cases ho : o.op with
 | move x =>
  have hx := one' (x := x) (by rw [ho]; simp [Op.operands])
  have hw : wOf c.h o = o.dst.toList ++ hands c.h x := by unfold wOf; rw [ho]
  unfold stepOp0 at h ⊢
  rw [ho] at h ⊢
  dsimp only at h ⊢
  rw [mvV_same hx (x := x) (by simp), rdc_same hx (x := x) (by simp), rd_same hx (x := x) (by simp), hσ, hw]
  split at h
  ·rename_i d hd
   split at h
   ·rename_i hz
    rw [if_pos hz]
    cases hf : frzV c.base s.σ (rd c.T s.env x) with
    | none => rw [hf] at h; cases h
    | some q =>
     obtain ⟨p, σ1⟩ := q
     rw [hf] at h
     injection h with h; injection h with h; subst h
     have := Moved.put' (s := s) (s' := s') (a := { s with σ := σ1 }) (a' := { s' with σ := σ1 }) (d := o.dst) (v := .p p) rfl rfl rfl
     refine ⟨_, rfl, this.le (fun t ht => List.mem_append_left _ ht) (fun t ht hn => ?_)⟩
     rcases List.mem_append.1 ht with h1 | h1
     ·exact absurd h1 hn
     ·unfold hands at h1
      split at h1
      ·simp at h1
      ·split at h1
       ·simp at h1; subst h1; exact hx _ (by simp)
       ·simp at h1
   rename_i hz
   rw [if_neg hz]
   split at h
   ·rename_i hm
    rw [if_pos hm]
    injection h with h; injection h with h; subst h
    have := Moved.strip (h := c.h) (s := s) (s' := s') (x := x) hx (d := o.dst) (v := mvV c.T c.h s.env x) (σ := s.σ)
    exact ⟨_, rfl, hσ, fun t ht => this.inn t ht, fun t ht => this.out t ht⟩
   ·rename_i hm
    rw [if_neg hm]
    injection h with h; injection h with h; subst h
    have := Moved.put (s := s) (s' := s') (d := o.dst) (v := rdc c.T s.env x) hσ
    refine ⟨_, rfl, this.le (fun t ht => List.mem_append_left _ ht) (fun t ht hn => ?_)⟩
    rcases List.mem_append.1 ht with h1 | h1
    ·exact absurd h1 hn
    ·unfold hands at h1
     split at h1
     ·simp at h1
     ·split at h1
      ·simp at h1; subst h1; exact hx _ (by simp)
      ·simp at h1
  ·cases h
 | assign x =>
  have hx := one' (x := x) (by rw [ho]; simp [Op.operands])
  have hw : wOf c.h o = o.dst.toList ++ hands c.h x := by unfold wOf; rw [ho]
  unfold stepOp0 at h ⊢
  rw [ho] at h ⊢
  dsimp only at h ⊢
  rw [mvV_same hx (x := x) (by simp), hw, hσ]
  split at h
  ·rename_i k hk
   injection h with h; injection h with h; subst h
   refine ⟨_, rfl, (Moved.put' (s := s) (s' := s') (a := { s with σ := s.σ ++ [AObj.dead] }) (a' := { s' with σ := s.σ ++ [AObj.dead] }) (d := o.dst) (v := .nms s.σ.length k) rfl rfl rfl).le (fun t ht => List.mem_append_left _ ht) fun t ht hn => ?_⟩
   rcases List.mem_append.1 ht with h1 | h1
   ·exact absurd h1 hn
   ·unfold hands at h1
    split at h1
    ·simp at h1
    ·split at h1
     ·simp at h1; subst h1; exact hx _ (by simp)
     ·simp at h1
  injection h with h; injection h with h; subst h
  have := Moved.strip (h := c.h) (s := s) (s' := s') (x := x) hx (d := o.dst) (v := nilF (fzO c.h o.dst) c.T o.type x (mvV c.T c.h s.env x)) (σ := s.σ)
  exact ⟨_, rfl, hσ, fun t ht => this.inn t ht, fun t ht => this.out t ht⟩
 | box t x =>
  have hx := one' (x := x) (by rw [ho]; simp [Op.operands])
  have hw : wOf c.h o = o.dst.toList ++ hands c.h x := by unfold wOf; rw [ho]
  unfold stepOp0 at h ⊢
  rw [ho] at h ⊢
  dsimp only at h ⊢
  rw [mvV_same hx (x := x) (by simp), hw, hσ]
  split at h
  ·rename_i hz
   rw [if_pos hz]
   injection h with h; injection h with h; subst h
   exact ⟨_, rfl, Moved.strip (h := c.h) (s := s) (s' := s') (x := x) hx (d := o.dst)⟩
  ·cases h
 | load t x =>
  have hx := one' (x := x) (by rw [ho]; simp [Op.operands])
  have hw : wOf c.h o = o.dst.toList := by unfold wOf; rw [ho]
  unfold stepOp0 at h ⊢
  rw [ho] at h ⊢
  dsimp only at h ⊢
  rw [rd_same hx (x := x) (by simp), hw, hσ]
  split at h
  ·split at h
   ·split at h
    ·rename_i hz
     rw [if_pos hz]
     split at h
     ·injection h with h; injection h with h; subst h; exact ⟨_, rfl, Moved.put' rfl rfl rfl⟩
     ·injection h with h; injection h with h; subst h; exact ⟨_, rfl, Moved.put hσ⟩
    ·rename_i hz
     rw [if_neg hz]
     injection h with h; injection h with h; subst h; exact ⟨_, rfl, Moved.put hσ⟩
   ·cases h
  ·cases h
 | store t x y =>
  have hx := one' (x := x) (by rw [ho]; simp [Op.operands])
  have hy := one' (x := y) (by rw [ho]; simp [Op.operands])
  have hw : wOf c.h o = hands c.h y := by unfold wOf; rw [ho]
  unfold stepOp0 at h ⊢
  rw [ho] at h ⊢
  dsimp only at h ⊢
  rw [rd_same hx (x := x) (by simp), mvV_same hy (x := y) (by simp), hw, hσ]
  split at h
  ·split at h
   ·rename_i hz
    rw [if_pos hz]
    injection h with h; injection h with h; subst h
    have := fun σ => Moved.strip (h := c.h) (s := s) (s' := s') (x := y) hy (d := none) (v := .undef) (σ := σ)
    exact ⟨_, rfl, rfl, fun t ht => (this []).inn t (by simpa using ht), fun t ht => (this []).out t (by simpa using ht)⟩
   ·cases h
  ·cases h
 | slice t x lo hi mx =>
  have hx := one' (x := x) (by rw [ho]; simp [Op.operands])
  have hw : wOf c.h o = o.dst.toList := by unfold wOf; rw [ho]
  have hlo : ∀ y, lo = some y → y ∈ o.op.operands.toList := fun y e => by rw [ho, e]; simp [Op.operands]
  have hhi : ∀ y, hi = some y → y ∈ o.op.operands.toList := fun y e => by rw [ho, e]; simp [Op.operands]
  have hmx : ∀ y, mx = some y → y ∈ o.op.operands.toList := fun y e => by rw [ho, e]; simp [Op.operands]
  have pr : ∀ {d : Option Nat} {v : Option AV}, putRes s d v = some (.ok s1) → ∃ s1', putRes s' d v = some (.ok s1') ∧ Moved d.toList s s' s1 s1' := by
   intro d v h
   cases v with
   | none => cases h
   | some x => injection h with h; injection h with h; subst h; exact ⟨_, rfl, Moved.put hσ⟩
  unfold stepOp0 at h ⊢
  rw [ho] at h ⊢
  dsimp only at h ⊢
  have elo : (fun d => bnd c.T s'.env d lo) = fun d => bnd c.T s.env d lo := funext fun d => bnd_same hs hlo
  have ehi : (fun d => bnd c.T s'.env d hi) = fun d => bnd c.T s.env d hi := funext fun d => bnd_same hs hhi
  rw [rd_same hx (x := x) (by simp), rdc_same hx (x := x) (by simp), hw, elo, ehi, hσ]
  split at h
  ·rename_i hz0
   rw [if_pos hz0]
   split at h
   ·exact pr h
   ·cases h
  rename_i hz0
  rw [if_neg hz0]
  rw [bnd_same hs hlo]
  split at h
  ·cases h
  ·rename_i hz
   rw [if_neg hz]
   split at h
   ·rename_i n hn
    rw [bnd_same hs hhi]
    split at h
    ·exact pr h
    ·rename_i m _ _
     rw [bnd_same hs (x := some m) (fun y e => by injection e with e; subst e; exact hmx _ rfl)]
     split at h
     ·split at h
      ·rename_i hq
       rw [if_pos hq]
       split at h
       ·injection h with h; injection h with h; subst h; exact ⟨_, rfl, Moved.put hσ⟩
       ·cases h
      ·cases h
     ·cases h
    ·cases h
   ·cases h
 | makeFunc fn fs cs =>
  have hw : wOf c.h o = o.dst.toList := by unfold wOf; rw [ho]
  unfold stepOp0 at h ⊢
  rw [ho] at h ⊢
  rw [hw]
  cases fn with
  | func f =>
   dsimp only at h ⊢
   split at h
   ·rename_i hz
    rw [if_pos hz]
    have e : cs.toList.map (fun x => rdc c.T s'.env x) = cs.toList.map (fun x => rdc c.T s.env x) := List.map_congr_left fun x hx => rdc_same hs (by rw [ho]; simp [Op.operands]; right; simpa using hx)
    split at h
    ·rename_i hc
     injection h with h; injection h with h; subst h
     exact ⟨_, rfl, Moved.put hσ⟩
    ·injection h with h; injection h with h; subst h
     refine ⟨_, rfl, ?_⟩
     rw [e]
     exact Moved.put hσ
   ·cases h
  | _ => cases h
 | _ => rw [ho] at hop; exact hop.elim
theorem callV_any {d : Option Nat} {f : AV} {args : List AV} {sA : S} (h : callV c sA d f args = some (.ok s1)) : ∃ v σ1, s1 = ({ sA with σ := σ1 } : S).put d v ∧ ∀ sB : S, sB.σ = sA.σ → ∃ σ2, callV c sB d f args = some (.ok (({ sB with σ := σ2 } : S).put d v)) ∧ σ2 = σ1 := by
 have eok : ∀ {σ : List AObj} {o1 : Out}, endCall sA d σ o1 = .ok s1 → ∃ v, o1 = .ret v ∧ s1 = ({ sA with σ := σ } : S).put d v := by
  intro σ o1 h
  cases o1 with
  | ret v => injection h with h; exact ⟨v, rfl, h.symm⟩
  | pan v => cases h
 unfold callV at h
 split at h
 ·rename_i fid
  split at h
  ·rename_i hpu
   split at h
   ·rename_i hpa
    split at h
    ·rename_i o1 σ1 hc
     injection h with h
     obtain ⟨v, rfl, hs'⟩ := eok h
     refine ⟨v, sA.σ, hs', fun sB hB => ⟨sB.σ, ?_, hB⟩⟩
     simp only [callV, hpu, hpa, if_true, hc, endCall]
    ·cases h
   ·cases h
  rename_i hpu
  split at h
  ·rename_i hm
   obtain ⟨o1, h6, h, hq⟩ := rmRun_ok h
   obtain ⟨v, rfl, hs'⟩ := eok h.symm
   refine ⟨v, sA.σ, hs', fun sB hB => ⟨sB.σ, ?_, hB⟩⟩
   rcases hq with ⟨id, args', ob, h1, h2, h3, h4, h5⟩ | ⟨args', σ1, h1, h2, h3, h5⟩
   ·rw [← hB] at h3
    simp only [callV, hpu, hm, if_true, rmRun, h1, h2, h3, h4, h5, rmEnd, rdOk_self, h6, endCall]
    rfl
   ·simp only [callV, hpu, hm, if_true, rmRun, h1, h2, h3, h5, rmEnd0, h6, endCall]
    rfl
  ·rename_i hm
   split at h
   ·rename_i o1 σ1 hc
    split at h
    case isFalse => cases h
    rename_i hrd
    injection h with h
    obtain ⟨v, rfl, hs'⟩ := eok h
    refine ⟨v, σ1, hs', fun sB hB => ⟨σ1, ?_, rfl⟩⟩
    simp only [callV, hpu, hm, hB, hc, endCall, hrd]
    rfl
   ·cases h
 ·split at h
  ·rename_i o1 σ1 hc
   injection h with h
   obtain ⟨v, rfl, hs'⟩ := eok h
   refine ⟨v, σ1, hs', fun sB hB => ⟨σ1, ?_, rfl⟩⟩
   simp only [callV, hB, hc, endCall]
  ·cases h
 ·split at h
  ·rename_i o1 σ1 hc
   injection h with h
   obtain ⟨v, rfl, hs'⟩ := eok h
   refine ⟨v, σ1, hs', fun sB hB => ⟨σ1, ?_, rfl⟩⟩
   simp only [callV, hB, hc, endCall]
  ·cases h
 ·cases h
theorem get_hands {h : FH} {env : Env} {x : Operand} {t : Nat} (ht : t ∉ hands h x) : get (AM.stripM h env x) t = get env t := by
 unfold hands at ht
 unfold AM.stripM
 split
 ·rfl
 ·rename_i hsh
  rw [if_neg hsh] at ht
  cases x with
  | tmp u => simp at ht; exact strip_get_other ht
  | _ => rfl
theorem argsV_same {T : Tab} {h : FH} : ∀ {xs : List Operand} {env env' : Env}, Same xs env env' → argsV T h env' xs = argsV T h env xs ∧ (∀ t, get env' t = get env t → get (stripsM h env' xs) t = get (stripsM h env xs) t) ∧ (∀ t, t ∉ xs.flatMap (hands h) → get (stripsM h env xs) t = get env t)
 | [], env, env', _ => ⟨rfl, fun t ht => ht, fun t _ => rfl⟩
 | x :: xs, env, env', hs => by
  have hx : ∀ t : Nat, x = .tmp t → get env' t = get env t := fun t e => hs t (by rw [e]; simp)
  obtain ⟨a, b, d⟩ := argsV_same (T := T) (h := h) (xs := xs) (env := stripM h env x) (env' := stripM h env' x) (fun t ht => stripM_congr hx (hs t (List.mem_cons_of_mem _ ht)))
  refine ⟨?_, fun t ht => ?_, fun t ht => ?_⟩
  ·unfold argsV
   rw [a, mvV_same hs (x := x) (by simp)]
  ·exact b t (stripM_congr hx ht)
  ·simp only [List.flatMap_cons, List.mem_append, not_or] at ht
   show get (stripsM h (stripM h env x) xs) t = _
   rw [d t ht.2]; exact get_hands ht.1
theorem hands_mem {h : FH} {x : Operand} {t : Nat} (ht : t ∈ hands h x) : x = .tmp t := by
 unfold hands at ht
 split at ht
 ·simp at ht
 ·split at ht
  ·simp at ht; rw [ht]
  ·simp at ht
theorem local_call (hσ : s'.σ = s.σ) (hs : Same o.op.operands.toList s.env s'.env) {cl : Call} (ho : o.op = .call cl) (h : stepOp0 c o s = some (.ok s1)) : ∃ s1', stepOp0 c o s' = some (.ok s1') ∧ Moved (wOf c.h o) s s' s1 s1' := by
 have hargs : ∀ x ∈ cl.args.toList, x ∈ o.op.operands.toList := fun x hx => by rw [ho]; simp [Op.operands, Call.operands]; right; simpa using hx
 unfold stepOp0 at h ⊢
 rw [ho] at h ⊢
 dsimp only at h ⊢
 cases hcal : cl.callee with
 | value f =>
  have hw : wOf c.h o = o.dst.toList ++ cl.args.toList.flatMap (hands c.h) := by unfold wOf; rw [ho]; simp only [hcal]
  have hf : f ∈ o.op.operands.toList := by rw [ho]; simp [Op.operands, Call.operands, hcal]
  have hsa : Same cl.args.toList s.env s'.env := fun t ht => hs t (hargs _ ht)
  rw [hcal] at h
  dsimp only at h ⊢
  obtain ⟨a, b, d⟩ := argsV_same (T := c.T) (h := c.h) hsa
  have d' := (argsV_same (T := c.T) (h := c.h) (xs := cl.args.toList) (env := s'.env) (env' := s'.env) (fun _ _ => rfl)).2.2
  rw [rd_same hs hf, a]
  obtain ⟨v, σ1, rfl, hB⟩ := callV_any h
  obtain ⟨σ2, hB2, rfl⟩ := hB { s' with env := stripsM c.h s'.env cl.args.toList } hσ
  refine ⟨_, hB2, ?_⟩
  rw [hw]
  have hg : ∀ (s : S) (σ : List AObj) t, get (({ env := stripsM c.h s.env cl.args.toList, σ := σ, dfs := s.dfs, pv := s.pv, rcv := s.rcv } : S).put o.dst v).env t = if o.dst = some t then v else get (stripsM c.h s.env cl.args.toList) t := by
   intro s σ t
   cases o.dst with
   | none => rfl
   | some d => simp [S.put, putE, get]
  refine ⟨rfl, fun t ht => ?_, fun t ht => ?_⟩
  ·rw [hg, hg]
   split
   ·rfl
   ·rename_i hd
    refine b t ?_
    rcases List.mem_append.1 ht with h1 | h1
    ·exact absurd (by cases hdd : o.dst <;> simp_all) hd
    ·obtain ⟨x, hx, hxt⟩ := List.mem_flatMap.1 h1
     have := hands_mem hxt
     subst this
     exact hsa t hx
  ·have h1 : t ∉ o.dst.toList := fun e => ht (List.mem_append_left _ e)
   have h2 : t ∉ cl.args.toList.flatMap (hands c.h) := fun e => ht (List.mem_append_right _ e)
   have hd : ¬ o.dst = some t := fun e => h1 (by simp [e])
   rw [hg, hg, if_neg hd, if_neg hd]
   exact ⟨d t h2, d' t h2⟩
 | invoke r m => rw [hcal] at h; cases h
 | builtin bi =>
  rw [hcal] at h
  cases bi with
  | len =>
   have hw : wOf c.h o = o.dst.toList := by unfold wOf; rw [ho]; simp [hcal]
   dsimp only at h ⊢
   rw [hw]
   split at h
   ·rename_i x t ts hx ht
    rw [rd_same hs (hargs x (by rw [hx]; simp))]
    split at h
    ·split at h
     ·rename_i hz
      rw [if_pos hz]
      injection h with h; injection h with h; subst h; exact ⟨_, rfl, Moved.put hσ⟩
     ·cases h
    ·cases h
   ·cases h
  | append =>
   dsimp only at h ⊢
   split at h
   ·rename_i x y t t' d hx ht hd
    have hw : wOf c.h o = o.dst.toList ++ hands c.h x := by unfold wOf; rw [ho]; simp [hcal, hx]
    have hxs : Same [x] s.env s'.env := fun u hu => by simp at hu; subst hu; exact hs u (hargs _ (by rw [hx]; simp))
    rw [hw, mvV_same hxs (x := x) (by simp), rdc_same hs (hargs y (by rw [hx]; simp)), hσ]
    split at h
    ·split at h
     ·rename_i hz
      rw [if_pos hz]
      split at h
      ·injection h with h; injection h with h; subst h
       exact ⟨_, rfl, Moved.strip (h := c.h) (s := s) (s' := s') (x := x) hxs (d := o.dst)⟩
      ·cases h
     ·cases h
    ·cases h
   ·cases h
  | copy =>
   have hw : wOf c.h o = o.dst.toList := by unfold wOf; rw [ho]; simp [hcal]
   dsimp only at h ⊢
   rw [hw]
   split at h
   ·rename_i x y t t' hx ht
    rw [rd_same hs (hargs x (by rw [hx]; simp)), rdc_same hs (hargs y (by rw [hx]; simp)), hσ]
    split at h
    ·split at h
     ·rename_i hz
      rw [if_pos hz]
      split at h
      ·injection h with h; injection h with h; subst h
       exact ⟨_, rfl, Moved.put' rfl rfl rfl⟩
      ·cases h
     ·cases h
    ·cases h
   ·cases h
  | min =>
   have hw : wOf c.h o = o.dst.toList := by unfold wOf; rw [ho]; simp [hcal]
   dsimp only at h ⊢
   have e : cl.args.toList.map (rd c.T s'.env) = cl.args.toList.map (rd c.T s.env) := List.map_congr_left fun x hx => rd_same hs (hargs x hx)
   rw [hw, e]
   split at h
   ·injection h with h; injection h with h; subst h; exact ⟨_, rfl, Moved.put hσ⟩
   ·cases h
  | max =>
   have hw : wOf c.h o = o.dst.toList := by unfold wOf; rw [ho]; simp [hcal]
   dsimp only at h ⊢
   have e : cl.args.toList.map (rd c.T s'.env) = cl.args.toList.map (rd c.T s.env) := List.map_congr_left fun x hx => rd_same hs (hargs x hx)
   rw [hw, e]
   split at h
   ·injection h with h; injection h with h; subst h; exact ⟨_, rfl, Moved.put hσ⟩
   ·cases h
  | _ => cases h
theorem local_extract (hσ : s'.σ = s.σ) (hs : Same o.op.operands.toList s.env s'.env) {x : Operand} {i : Nat} (ho : o.op = .extract x i) (h : stepOp0 c o s = some (.ok s1)) : ∃ s1', stepOp0 c o s' = some (.ok s1') ∧ Moved (wOf c.h o) s s' s1 s1' := by
 have hx : x ∈ o.op.operands.toList := by rw [ho]; simp [Op.operands]
 unfold stepOp0 at h ⊢
 rw [ho] at h ⊢
 dsimp only at h ⊢
 rw [rd_same hs hx]
 cases x with
 | tmp t =>
  have hw0 : wOf c.h o = o.dst.toList ++ (if shOf c.h (.tmp t) = true then [] else [t]) := by unfold wOf; rw [ho]
  cases hp : pickTup (rd c.T s.env (.tmp t)) i with
  | none => rw [hp] at h; cases h
  | some v =>
   rw [hp] at h
   dsimp only at h ⊢
   have ht : get s'.env t = get s.env t := hs t hx
   by_cases hsh : shOf c.h (.tmp t) = true
   ·rw [if_pos hsh] at h ⊢
    rw [if_pos hsh] at hw0
    rw [hw0, List.append_nil]
    injection h with h; injection h with h; subst h
    exact ⟨_, rfl, Moved.put hσ⟩
   rw [if_neg hsh] at h ⊢
   rw [if_neg hsh] at hw0
   have hw : wOf c.h o = o.dst.toList ++ [t] := hw0
   rw [hw]
   split at h
   ·injection h with h; injection h with h; subst h
    refine ⟨_, rfl, (Moved.put (s := s) (s' := s') (d := o.dst) (v := v) hσ).le (fun u hu => List.mem_append_left _ hu) (fun u hu hn => ?_)⟩
    rcases List.mem_append.1 hu with h1 | h1
    ·exact absurd h1 hn
    ·simp at h1; subst h1; exact ht
   ·injection h with h; injection h with h; subst h
    refine ⟨_, rfl, hσ, fun u hu => ?_, fun u hu => ?_⟩
    ·cases hd : o.dst with
     | none =>
      rw [hd] at hu; simp at hu; subst hu
      simp [S.put, putE, get]
     | some d =>
      rw [hd] at hu; simp at hu
      simp only [S.put, putE, get, beq_iff_eq]
      split
      ·rfl
      ·rename_i hne
       rcases hu with h1 | h1
       ·exact absurd h1.symm hne
       ·subst h1; simp
    ·cases hd : o.dst with
     | none =>
      rw [hd] at hu; simp at hu
      simp [S.put, putE, get, Ne.symm hu]
     | some d =>
      rw [hd] at hu; simp at hu
      simp [S.put, putE, get, Ne.symm hu.1, Ne.symm hu.2]
 | _ =>
  split at h
  ·rename_i he; cases he
  ·cases h
theorem local_map (hσ : s'.σ = s.σ) (hs : Same o.op.operands.toList s.env s'.env) (hop : match o.op with | .makeMap .. | .lookup .. | .mapUpdate .. => True | _ => False) (h : stepOp0 c o s = some (.ok s1)) : ∃ s1', stepOp0 c o s' = some (.ok s1') ∧ Moved (wOf c.h o) s s' s1 s1' := by
 unfold stepOp0 at h ⊢
 cases ho : o.op with
 | makeMap t r =>
  have hw : wOf c.h o = o.dst.toList := by unfold wOf; rw [ho]
  rw [hw]
  rw [ho] at h hs
  dsimp only at h ⊢
  rw [hσ]
  split at h
  ·injection h with h; injection h with h; subst h; exact ⟨_, rfl, Moved.put' rfl rfl rfl⟩
  ·cases h
 | lookup t x i ok =>
  have hw : wOf c.h o = o.dst.toList := by unfold wOf; rw [ho]
  rw [hw]
  rw [ho] at h hs
  dsimp only at h ⊢
  rw [rd_same hs (x := x) (by simp [Op.operands]), rd_same hs (x := i) (by simp [Op.operands]), hσ]
  generalize lookupV c.T s.σ t (rd c.T s.env x) (rd c.T s.env i) ok = v at h ⊢
  cases v with
  | none => cases h
  | some x => injection h with h; injection h with h; subst h; exact ⟨_, rfl, Moved.put hσ⟩
 | mapUpdate t m k x =>
  have hw : wOf c.h o = [] := by unfold wOf; rw [ho]
  rw [hw]
  rw [ho] at h hs
  dsimp only at h ⊢
  rw [rd_same hs (x := m) (by simp [Op.operands]), rd_same hs (x := k) (by simp [Op.operands]), rdc_same hs (x := x) (by simp [Op.operands]), hσ]
  split at h
  ·injection h with h; injection h with h; subst h
   exact ⟨_, rfl, rfl, fun t ht => (by cases ht), fun t _ => ⟨rfl, rfl⟩⟩
  ·cases h
 | _ => rw [ho] at hop; exact hop.elim
theorem stepOp0_local (hσ : s'.σ = s.σ) (hs : Same o.op.operands.toList s.env s'.env) (h : stepOp0 c o s = some (.ok s1)) : ∃ s1', stepOp0 c o s' = some (.ok s1') ∧ Moved (wOf c.h o) s s' s1 s1' := by
 cases ho : o.op with
 | call cl => exact local_call hσ hs ho h
 | extract x i => exact local_extract hσ hs ho h
 | build t ps =>
  have hw : wOf c.h o = o.dst.toList := by unfold wOf; rw [ho]
  rw [hw]; exact local_build hσ ho hs h
 | buildSlice t n ps =>
  have hw : wOf c.h o = o.dst.toList := by unfold wOf; rw [ho]
  rw [hw]; exact local_buildSlice hσ ho hs h
 | move _ => exact local_two hσ hs (by rw [ho]; trivial) h
 | assign _ => exact local_two hσ hs (by rw [ho]; trivial) h
 | box _ _ => exact local_two hσ hs (by rw [ho]; trivial) h
 | load _ _ => exact local_two hσ hs (by rw [ho]; trivial) h
 | store _ _ _ => exact local_two hσ hs (by rw [ho]; trivial) h
 | slice _ _ _ _ _ => exact local_two hσ hs (by rw [ho]; trivial) h
 | makeFunc _ _ _ => exact local_two hσ hs (by rw [ho]; trivial) h
 | makeMap _ _ => exact local_map hσ hs (by rw [ho]; trivial) h
 | lookup _ _ _ _ => exact local_map hσ hs (by rw [ho]; trivial) h
 | mapUpdate _ _ _ _ => exact local_map hσ hs (by rw [ho]; trivial) h
 | panic x =>
  unfold stepOp0 at h
  rw [ho] at h
  dsimp only at h
  split at h <;> cases h
 | pick _ _ _ =>
  have hw : wOf c.h o = o.dst.toList := by unfold wOf; rw [ho]
  rw [hw]; exact local_one hσ hs (by rw [ho]; trivial) h
 | binOp _ _ _ _ _ =>
  have hw : wOf c.h o = o.dst.toList := by unfold wOf; rw [ho]
  rw [hw]; exact local_one hσ hs (by rw [ho]; trivial) h
 | unOp _ _ _ =>
  have hw : wOf c.h o = o.dst.toList := by unfold wOf; rw [ho]
  rw [hw]; exact local_one hσ hs (by rw [ho]; trivial) h
 | alloc _ =>
  have hw : wOf c.h o = o.dst.toList := by unfold wOf; rw [ho]
  rw [hw]; exact local_one hσ hs (by rw [ho]; trivial) h
 | nilCheck _ =>
  have hw : wOf c.h o = o.dst.toList := by unfold wOf; rw [ho]
  rw [hw]; exact local_one hσ hs (by rw [ho]; trivial) h
 | indexAddr _ _ _ =>
  have hw : wOf c.h o = o.dst.toList := by unfold wOf; rw [ho]
  rw [hw]; exact local_one hσ hs (by rw [ho]; trivial) h
 | fieldAddr _ _ _ =>
  have hw : wOf c.h o = o.dst.toList := by unfold wOf; rw [ho]
  rw [hw]; exact local_one hσ hs (by rw [ho]; trivial) h
 | field _ _ _ =>
  have hw : wOf c.h o = o.dst.toList := by unfold wOf; rw [ho]
  rw [hw]; exact local_one hσ hs (by rw [ho]; trivial) h
 | index _ _ _ =>
  have hw : wOf c.h o = o.dst.toList := by unfold wOf; rw [ho]
  rw [hw]; exact local_one hσ hs (by rw [ho]; trivial) h
 | convert _ _ _ =>
  have hw : wOf c.h o = o.dst.toList := by unfold wOf; rw [ho]
  rw [hw]; exact local_one hσ hs (by rw [ho]; trivial) h
 | typeAssert _ _ _ _ =>
  have hw : wOf c.h o = o.dst.toList := by unfold wOf; rw [ho]
  rw [hw]; exact local_one hσ hs (by rw [ho]; trivial) h
 | makeInterface _ _ =>
  have hw : wOf c.h o = o.dst.toList := by unfold wOf; rw [ho]
  rw [hw]; exact local_one hσ hs (by rw [ho]; trivial) h
 | makeSlice _ _ _ =>
  have hw : wOf c.h o = o.dst.toList := by unfold wOf; rw [ho]
  rw [hw]; exact local_one hσ hs (by rw [ho]; trivial) h
 | _ =>
  unfold stepOp0 at h
  rw [ho] at h
  cases h
theorem stepOp_local (hσ : s'.σ = s.σ) (hs : Same o.op.operands.toList s.env s'.env) (h : stepOp c o s = some (.ok s1)) : ∃ s1', stepOp c o s' = some (.ok s1') ∧ Moved (wOf c.h o) s s' s1 s1' := by
 obtain ⟨h1, h2⟩ := stepOp_of h
 obtain ⟨s1', h3, hm⟩ := stepOp0_local hσ hs h2
 refine ⟨s1', ?_, hm⟩
 have : offOk c o s' = offOk c o s := by
  unfold offOk
  cases ho : o.op with
  | load t a =>
   dsimp only
   rw [rd_same hs (x := a) (by rw [ho]; simp [Op.operands])]
  | store t a x =>
   dsimp only
   rw [rd_same hs (x := a) (by rw [ho]; simp [Op.operands])]
  | _ => rfl
 unfold stepOp
 rw [this, h1, if_pos rfl]
 exact h3
end
end Go.AM
