/- A part of the abstract machine and its simulation. -/
import Derived.Test.YtlplohgmoheeaaaAmOrd
set_option linter.unusedVariables false
set_option linter.unusedSimpArgs false
namespace Go.AM
open Go Go.RowKit
section
variable {GL : List (Nat × List PV)} {B0 : Nat} {w0 : World} {ty : List TI} {P : Program} {H : FuncId → FH} {C : CallF} {h : FH} {base : Nat} {ro : Option Nat}
theorem ops_wpG (hT : TabOk P ⟨ty, GL⟩) (hC : CallSim P GL C) (hG0 : ∀ f args v σ', (H f).pu = true → C (.fn f) args [] = some (.ret v, σ') → ltV 0 v = true) {N : Nat} (ops : Array Oper) (hok : ∀ (i : Nat) o, ops[i]? = some o → opOk N o = true) {a0 : Act} {g0 : G} {w00 : World} {s' : S} {Q : Exit → Act → World → Prop} (hQ : ∀ g' (a' : Act) w', Inv GL B0 w0 g' s'.env s'.σ a'.tmps w' → Post g0 w00 g' w' → a'.tmps.size = a0.tmps.size → a'.defers = a0.defers → Q .normal a' w') :
 ∀ (l : List Nat) (os : List Oper) (s : S) (a : Act) (g : G) (w : World), l.map (fun i => ops[i]?) = os.map some → N ≤ a.tmps.size → Inv GL B0 w0 g s.env s.σ a.tmps w → Post g0 w00 g w → a.tmps.size = a0.tmps.size → a.defers = a0.defers →
  runG ⟨⟨ty, GL⟩, H, C, h, base⟩ ops.toList os s = some (.ok s') → wpOpsIn (FW ro) 0 P ops Q l a w
 | [], os, s, a, g, w, hl, hN, hI, hP, hsz, hdf, hs => by
  have : os = [] := by simpa using hl.symm
  subst this
  injection hs with hs; injection hs with hs; subst hs
  exact hQ g a w hI hP hsz hdf
 | i :: l, [], s, a, g, w, hl, hN, hI, hP, hsz, hdf, hs => by simp at hl
 | i :: l, o :: os, s, a, g, w, hl, hN, hI, hP, hsz, hdf, hs => by
  simp only [List.map_cons, List.cons.injEq] at hl
  obtain ⟨hoi, hl'⟩ := hl
  have hoo := hok i o hoi
  have hdd : ∀ d', o.dst = some d' → d' < a.tmps.size := fun d e => by
   unfold opOk at hoo
   simp only [e, Bool.and_eq_true, decide_eq_true_eq] at hoo
   exact Nat.lt_of_lt_of_le hoo.1.1 hN
  obtain ⟨s1, h1, h2⟩ := runG_cons.1 hs
  simp only [wpOpsIn, hoi]
  have taken : stepOp ⟨⟨ty, GL⟩, H, C, h, base⟩ o s = some (.ok s1) → o.wpIn (FW ro) 0 P a w (wpOpsIn (FW ro) 0 P ops Q l) Q := fun hst =>
   op_wp hT hC hG0 hN hoo hI hst (fun a' w' g' hI2 hP2 hz hd2 => ops_wpG hT hC hG0 ops hok hQ l os s1 a' g' w' hl' (by rw [hz]; exact hN) hI2 (hP.trans hP2) (hz.trans hsz) (hd2.trans hdf) h2)
  unfold stepG at h1
  split at h1
  ·cases h1
  ·rename_i hgo
   have hg : o.guard = none := by
    unfold guardOf at hgo
    split at hgo
    ·assumption
    ·split at hgo
     ·split at hgo
      ·split at hgo <;> cases hgo
      ·cases hgo
     ·cases hgo
   have hw : Region.wanted o (yielded ops a.tmps) = true := by unfold Region.wanted; rw [hg]
   rw [if_pos hw]
   exact (taken h1)
  ·rename_i d b want hgo
   have hw : Region.wanted o (yielded ops a.tmps) = decide (b = some want) := by
    unfold guardOf at hgo
    split at hgo
    ·cases hgo
    ·rename_i j want' hg
     split at hgo
     ·rename_i oj hoj
      split at hgo
      ·rename_i d' hd
       have hr := hI.env d'
       split at hgo
       ·rename_i b' hb
        injection hgo with hgo; injection hgo with hgo
        have q1 := Prod.mk.inj hgo
        have q2 := Prod.mk.inj q1.2
        rw [hb] at hr
        have hv : a.tmps.getD d' Go.undef = .bool b' := by
         have : RelX g (.tmp d') (.p (.lit (.bool b'))) (a.tmps.getD d' Go.undef) := hr
         exact RelP.lit this.pure
        have hy : yielded ops a.tmps j = some b' := by
         unfold yielded
         rw [Array.getElem?_toList] at hoj
         rw [Array.getD_eq_getD_getElem?] at hv
         cases hq : a.tmps[d']? with
         | none => rw [hq] at hv; cases hv
         | some u =>
          rw [hq] at hv
          simp only [Option.getD_some] at hv
          subst hv
          simp [hoj, hd, hq]
        unfold Region.wanted
        rw [hg]
        simp only [hy]
        rw [← q2.1, ← q2.2]
        cases b' <;> cases want' <;> rfl
       ·rename_i hb
        injection hgo with hgo; injection hgo with hgo
        have q1 := Prod.mk.inj hgo
        have q2 := Prod.mk.inj q1.2
        rw [hb] at hr
        have hv : a.tmps.getD d' Go.undef = Go.undef := by
         have : RelX g (.tmp d') (.p (.tup [])) (a.tmps.getD d' Go.undef) := hr
         exact rel_ud_eq this.pure
        have hy : yielded ops a.tmps j = none := by
         unfold yielded
         rw [Array.getElem?_toList] at hoj
         rw [Array.getD_eq_getD_getElem?] at hv
         cases hq : a.tmps[d']? with
         | none => simp [hoj, hd, hq]
         | some u =>
          rw [hq] at hv
          simp only [Option.getD_some] at hv
          subst hv
          simp [hoj, hd, hq, Go.undef]
        unfold Region.wanted
        rw [hg]
        simp only [hy]
        rw [← q2.1]
        rfl
       ·cases hgo
      ·cases hgo
     ·cases hgo
   split at h1
   ·rename_i hb
    rw [hw, if_pos (by simpa using hb)]
    exact (taken h1)
   ·rename_i hb
    rw [hw, decide_eq_false hb, if_neg (by simp)]
    refine ⟨fun _ _ => trivial, ?_⟩
    injection h1 with h1; injection h1 with h1; subst h1
    obtain ⟨e1, e2⟩ := act_put a o.dst Go.undef
    have hI3 := hI.udO hdd
    exact ops_wpG hT hC hG0 ops hok hQ l os _ (a.put o.dst Go.undef) g w hl' (by rw [e1, putT_size]; exact hN) (by rw [e1]; exact hI3) hP (by rw [e1, putT_size]; exact hsz) (e2.trans hdf) h2
end
end Go.AM
