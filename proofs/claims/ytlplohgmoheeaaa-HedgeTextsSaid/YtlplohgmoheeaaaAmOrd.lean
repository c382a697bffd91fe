/- A part of the abstract machine and its simulation. -/
import Derived.Test.YtlplohgmoheeaaaAmComm
set_option linter.unusedVariables false
set_option linter.unusedSimpArgs false
namespace Go.AM
open Go
theorem Eqv.refl (s : S) : Eqv s s := ⟨fun _ => rfl, rfl⟩
theorem Eqv.trans {a b d : S} (h : Eqv a b) (k : Eqv b d) : Eqv a d := ⟨fun t => (k.env t).trans (h.env t), k.σ.trans h.σ⟩
theorem Act1.eqv {R W : List Nat} {p r n l m : Bool} {f : S → Option Rs} (A : Act1 R W p r n l m f) {s s' s1 : S} (he : Eqv s s') (h : f s = some (.ok s1)) : ∃ s1', f s' = some (.ok s1') ∧ Eqv s1 s1' := by
 obtain ⟨s1', h1, hm⟩ := A.loc s s' s1 he.σ (fun t _ => he.env t) h
 refine ⟨s1', h1, fun t => ?_, hm.σ⟩
 by_cases ht : t ∈ W
 ·exact hm.inn t ht
 ·obtain ⟨a, b⟩ := hm.out t ht
  rw [a, b]; exact he.env t
noncomputable def runG (c : Cx) (all : List Oper) : List Oper → S → Option Rs
 | [], s => some (.ok s)
 | o :: os, s => thenR (runG c all os) (stepG c all o s)
def dstOk (h : FH) (o : Oper) : Prop := ∀ d, o.dst = some d → d ∈ wOf h o
section
variable {c : Cx} {all : List Oper}
theorem runG_cons {o : Oper} {os : List Oper} {s s2 : S} : runG c all (o :: os) s = some (.ok s2) ↔ ∃ s1, stepG c all o s = some (.ok s1) ∧ runG c all os s1 = some (.ok s2) := by
 rw [runG]
 constructor
 ·intro h
  cases h1 : stepG c all o s with
  | none => rw [h1] at h; cases h
  | some r =>
   rw [h1] at h
   cases r with
   | ok s1 => exact ⟨s1, rfl, h⟩
   | pan v s1 => injection h with h; cases h
 ·rintro ⟨s1, h1, h2⟩
  rw [h1]; exact h2
theorem runG_eqv : ∀ {os : List Oper} {s s' s2 : S}, (∀ o ∈ os, dstOk c.h o) → Eqv s s' → runG c all os s = some (.ok s2) → ∃ s2', runG c all os s' = some (.ok s2') ∧ Eqv s2 s2'
 | [], s, s', s2, _, he, h => by injection h with h; injection h with h; subst h; exact ⟨s', rfl, he⟩
 | o :: os, s, s', s2, hd, he, h => by
  obtain ⟨s1, h1, h2⟩ := runG_cons.1 h
  obtain ⟨s1', h3, e1⟩ := (act_g c all o (hd o (by simp))).eqv he h1
  obtain ⟨s2', h4, e2⟩ := runG_eqv (fun x hx => hd x (List.mem_cons_of_mem o hx)) e1 h2
  exact ⟨s2', runG_cons.2 ⟨s1', h3, h4⟩, e2⟩
theorem move_front {x : Oper} {post : List Oper} : ∀ {pre : List Oper} {s s2 : S}, (∀ o ∈ pre ++ x :: post, dstOk c.h o) → (∀ y ∈ pre, pairG c all y x = true) → runG c all (pre ++ x :: post) s = some (.ok s2) →
 ∃ s2', runG c all (x :: (pre ++ post)) s = some (.ok s2') ∧ Eqv s2 s2'
 | [], s, s2, _, _, h => ⟨s2, h, Eqv.refl _⟩
 | y :: pre, s, s2, hd, hp, h => by
  obtain ⟨s1, h1, h2⟩ := runG_cons.1 h
  obtain ⟨s3, h3, e3⟩ := move_front (pre := pre) (fun o ho => hd o (List.mem_cons_of_mem y ho)) (fun z hz => hp z (List.mem_cons_of_mem y hz)) h2
  obtain ⟨s4, h4, h5⟩ := runG_cons.1 h3
  obtain ⟨a, b, k1, k2, ek⟩ : ∃ a b, stepG c all x s = some (.ok a) ∧ stepG c all y a = some (.ok b) ∧ Eqv s4 b := by
   have hq := hp y (by simp)
   unfold pairG at hq
   rcases Bool.or_eq_true _ _ ▸ hq with hq | hq
   ·rcases Bool.or_eq_true _ _ ▸ hq with hq | hq
    ·rcases Bool.or_eq_true _ _ ▸ hq with hq | hq
     ·rcases Bool.or_eq_true _ _ ▸ hq with hq | hq
      ·rcases Bool.or_eq_true _ _ ▸ hq with hq | hq
       ·exact commute_os hq h1 h4
       ·exact commute_rk (hd y (by simp)) (hd x (by simp)) hq h1 h4
      ·exact commute_zk hq h1 h4
     ·exact commute_cc hq h1 h4
    ·exact commute_fr hq h1 h4
   ·exact commute (act_g c all y (hd y (by simp))) (act_g c all x (hd x (by simp))) hq h1 h4
  have hd' : ∀ o ∈ pre ++ post, dstOk c.h o := fun o ho => hd o (by
   rcases List.mem_append.1 ho with h | h
   ·exact List.mem_cons_of_mem y (List.mem_append_left _ h)
   ·exact List.mem_cons_of_mem y (List.mem_append_right _ (List.mem_cons_of_mem x h)))
  obtain ⟨s5, h6, e6⟩ := runG_eqv hd' ek h5
  exact ⟨s5, runG_cons.2 ⟨a, k1, runG_cons.2 ⟨b, k2, h6⟩⟩, e3.trans e6⟩
theorem eqv_know {s : S} {d : Nat} {v : AV} (h : get s.env d = v) : Eqv (s.put (some d) v) s := by
 refine ⟨fun t => ?_, rfl⟩
 show get s.env t = get ((d, v) :: s.env) t
 simp only [get, beq_iff_eq]
 split
 ·rename_i e; subst e; exact h
 ·rfl
theorem eqv_put {s s' : S} (he : Eqv s s') (d : Option Nat) (v : AV) : Eqv (s.put d v) (s'.put d v) := by
 refine ⟨fun t => ?_, he.σ⟩
 cases d with
 | none => exact he.env t
 | some d =>
  show get ((d, v) :: s'.env) t = get ((d, v) :: s.env) t
  simp only [get]
  split
  ·rfl
  ·exact he.env t
theorem runG_of : ∀ {os : List Oper} {s s1 : S}, (∀ o ∈ os, dstOk c.h o) → stepOps c all os s = some (.ok s1) → ∃ s1', runG c all os s = some (.ok s1') ∧ Eqv s1 s1'
 | [], s, s1, _, h => ⟨s1, h, Eqv.refl _⟩
 | o :: os, s, s1, hd, h => by
  have hd' := fun x hx => hd x (List.mem_cons_of_mem o hx)
  have A := act_op c o
  have go : ∀ {s0 : S}, Eqv s0 s → (∀ r, stepOp c o s = r → stepG c all o s = r) → thenR (stepOps c all os) (stepOp c o s0) = some (.ok s1) → ∃ s1', runG c all (o :: os) s = some (.ok s1') ∧ Eqv s1 s1' := by
   intro s0 he hg h
   cases h1 : stepOp c o s0 with
   | none => rw [h1] at h; cases h
   | some r =>
    rw [h1] at h
    cases r with
    | pan v s2 => injection h with h; cases h
    | ok s2 =>
     obtain ⟨s2', h2, e2⟩ := A.eqv he h1
     obtain ⟨s3, h3, e3⟩ := runG_of hd' h
     obtain ⟨s4, h4, e4⟩ := runG_eqv hd' e2 h3
     exact ⟨s4, runG_cons.2 ⟨s2', hg _ h2, h4⟩, e3.trans e4⟩
  have hgd : ∀ d b want, guardOf all s.env o = some (some (d, b, want)) → (∀ v, b = some v → get s.env d = .p (.lit (.bool v))) ∧ (b = none → get s.env d = udV) := by
   intro d b want hg
   unfold guardOf at hg
   split at hg
   ·injection hg with hg; cases hg
   ·split at hg
    ·split at hg
     ·split at hg
      ·rename_i hb
       injection hg with hg; injection hg with hg
       have q1 := Prod.mk.inj hg
       have q2 := Prod.mk.inj q1.2
       rw [← q1.1, hb, ← q2.1]
       exact ⟨fun v e => by injection e with e; rw [e], fun e => by cases e⟩
      ·rename_i hb
       injection hg with hg; injection hg with hg
       have q1 := Prod.mk.inj hg
       have q2 := Prod.mk.inj q1.2
       rw [← q1.1, hb, ← q2.1]
       exact ⟨fun v e => (by cases e), fun _ => rfl⟩
      ·cases hg
     ·cases hg
    ·cases hg
  unfold stepOps at h
  split at h
  ·cases h
  ·rename_i hg
   exact go (Eqv.refl s) (fun r hr => by unfold stepG; rw [hg]; exact hr) h
  ·rename_i d b want hg
   have hk := hgd d b want hg
   split at h
   ·rename_i hb
    have hk1 := hk.1 want hb
    subst hb
    exact go (eqv_know hk1) (fun r hr => by unfold stepG; rw [hg]; simp only [if_true]; exact hr) h
   ·rename_i hb
    have hk2 : get s.env d = gv b want := by
     cases b with
     | none => exact hk.2 rfl
     | some b' =>
      have hnb : (!want) = b' := by
       have : ¬ b' = want := fun e => hb (by rw [e])
       cases b' <;> cases want <;> simp_all
      show _ = AV.p (.lit (.bool !want))
      rw [hnb]; exact hk.1 b' rfl
    obtain ⟨s3, h3, e3⟩ := runG_of hd' h
    obtain ⟨s4, h4, e4⟩ := runG_eqv hd' (eqv_put (eqv_know hk2) o.dst udV) h3
    exact ⟨s4, runG_cons.2 ⟨_, by unfold stepG; rw [hg]; simp only [if_neg hb], h4⟩, e3.trans e4⟩
end
end Go.AM
