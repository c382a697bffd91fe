/- A part of the abstract machine and its simulation. -/
import Derived.Test.YtbalikooghpmlaaDoorAmRm
import Derived.Test.YtbalikooghpmlaaDoorAmMap
import Derived.Test.YtbalikooghpmlaaDoorAmCopy
import Derived.Calls
import Derived.RangeFuncRecord
set_option linter.unusedVariables false
set_option linter.unusedSimpArgs false
namespace Go.AM
open Go Go.RowKit
def FW (ro : Option Nat) : Fence := { fn := fun _ => True, depth := none, alive := false, round := ro }
theorem callsIn_FW {ro : Option Nat} {n : Nat} {P : Program} {f : FuncId} {args : Array Value} {w : World} {R : Ending → World → Prop} : CallsIn (FW ro) n P f args w R ↔ Calls P f args w R :=
 callsIn_wide (n := n)
structure CallSim (P : Program) (GL : List (Nat × List PV)) (C : CallF) : Prop where
 fn : ∀ f args σ v σ', C (.fn f) args σ = some (.ret v, σ') → ∀ B0 w0 g Args w, Inv GL B0 w0 g (envOf 0 args) σ Args w → args.length = Args.size →
  (∃ fn, P.funcs[f]? = some fn ∧ fn.body.isSome = true ∧ (fn.name == "runtime.NumGoroutine") = false) ∧
  Calls P f Args w fun e w' => ∃ V g', e = .returned V ∧ Inv GL B0 w0 g' [(0, v)] σ' #[V] w' ∧ Post g w g' w'
 yld : ∀ id args σ v σ', C (.yld id) args σ = some (.ret v, σ') → ∀ B0 w0 g Args w, Inv GL B0 w0 g (envOf 0 args) σ Args w → args.length = Args.size →
  ∃ e rec, g.μ[id]? = some e ∧ w.heap[e.blk]? = some (.loop rec) ∧ Args.size = rec.params.size ∧
  RoundIn (FW none) 0 P e.blk rec.fn ((rec.params.zip Args).foldl (fun tmps (t, a) => tmps.setIfInBounds t a) rec.tmps) rec.assign rec.body w fun e w' => ∃ V g', e = .returned V ∧ Inv GL B0 w0 g' [(0, v)] σ' #[V] w' ∧ Post g w g' w'
 pan : ∀ f args σ v σ', C (.fn f) args σ = some (.pan v, σ') → ∀ B0 w0 g Args w, Inv GL B0 w0 g (envOf 0 args) σ Args w → args.length = Args.size →
  (∃ fn, P.funcs[f]? = some fn ∧ fn.body.isSome = true ∧ (fn.name == "runtime.NumGoroutine") = false) ∧
  Calls P f Args w fun e w' => ∃ V g', e = .panicked [{ v := V, recovered := false }] ∧ Inv GL B0 w0 g' [(0, .p v)] σ' #[V] w' ∧ Post g w g' w'
def hidP (id : Nat) : Pl → Bool
 | .obj i => i == id
 | .cell i _ => i == id
 | .elem i _ _ => i == id
 | _ => false
def G.hide (g : G) (id : Nat) : G := { g with tag := fun b => (g.tag b).bind fun p => if hidP id p = true then none else some p }
def G.show (g2 g : G) (id : Nat) : G := { g2 with tag := fun b => if (g.tag b).any (hidP id) = true then g.tag b else g2.tag b }
section
variable {GL : List (Nat × List PV)} {B0 : Nat} {w0 : World} {g g2 : G} {env env2 : Env} {σ σ2 : List AObj} {tm tm2 : Array Value} {w w2 : World} {P : Program} {C : CallF}
theorem hide_tag {b : Nat} {p : Pl} {id : Nat} : (g.hide id).tag b = some p ↔ g.tag b = some p ∧ hidP id p = false := by
 show ((g.tag b).bind _) = some p ↔ _
 cases h : g.tag b with
 | none => simp
 | some q =>
  simp only [Option.bind_some]
  cases hq : hidP id q with
  | true =>
   simp only [if_true, Option.some.injEq]
   constructor
   ·intro h; cases h
   ·rintro ⟨rfl, h⟩; rw [hq] at h; cases h
  | false =>
   simp only [Bool.false_eq_true, if_false, Option.some.injEq]
   constructor
   ·rintro rfl; exact ⟨rfl, hq⟩
   ·exact fun h => h.1
theorem Inv.hide {id : Nat} {cs : List AV} (hI : Inv GL B0 w0 g env σ tm w) (h0 : σ[id]? = some (.cells cs)) : Inv GL B0 w0 (g.hide id) env (σ.set id .hid) tm w := by
 have hG : Gle g (g.hide id) := ⟨MemLe.refl _, fun _ e h => ⟨e, h, rfl, Nat.le_refl _, fun _ => ⟨rfl, rfl, fun _ => rfl⟩, fun _ => rfl⟩⟩
 have hK : KeepPl g (g.hide id) w w (fun p => hidP id p = false) := fun b pl hb hA => ⟨hide_tag.2 ⟨hb, hA⟩, rfl, fun _ h => h, rfl⟩
 have hlt := (List.getElem?_eq_some_iff.1 h0).1
 refine ⟨hI.below, hI.base, hI.fz, fun b pl hb => hI.tlt b pl (hide_tag.1 hb).1, fun b pl hb => hI.own b pl (hide_tag.1 hb).1, fun t => (hI.env t).keep hG hK rfl (fun _ => rfl), fun i o ho => ?_, by rw [List.length_set]; exact hI.len, hI.glob, hI.mlt⟩
 by_cases e : id = i
 ·subst e
  rw [List.getElem?_set_self hlt] at ho
  injection ho with ho; subst ho
  obtain ⟨e, he, ha, _⟩ := hI.objs id _ h0
  exact ⟨e, he, ha⟩
 ·rw [List.getElem?_set_ne e] at ho
  have hne : (i == id) = false := by simpa using Ne.symm e
  exact (hI.objs i o ho).keep hG hK hne (fun _ => hne) (fun _ _ => hne) (fun e he _ => he)
theorem Inv.unhide {id : Nat} {cs : List AV} (hI : Inv GL B0 w0 g env σ tm w) (h0 : σ[id]? = some (.cells cs)) (hP : Post (g.hide id) w g2 w2) (h2 : Inv GL B0 w0 g2 env2 σ2 tm2 w2) (h3 : σ2[id]? = some .hid) :
 Inv GL B0 w0 (g2.show g id) env2 (σ2.set id (.cells cs)) tm2 w2 ∧ Post g w (g2.show g id) w2 := by
 have hany : ∀ b, (g.tag b).any (hidP id) = true → ∃ p, g.tag b = some p ∧ hidP id p = true := fun b hb => by
  cases h : g.tag b with
  | none => rw [h] at hb; cases hb
  | some p => rw [h] at hb; exact ⟨p, rfl, hb⟩
 have hany' : ∀ b p, g.tag b = some p → hidP id p = true → (g.tag b).any (hidP id) = true := fun b p h hp => by rw [h]; exact hp
 have hkb : ∀ b p, g.tag b = some p → hidP id p = true → b < w.heap.size ∧ w2.heap[b]? = w.heap[b]? ∧ g2.tag b = none ∧ g2.bs b = g.bs b ∧ ∀ o, g2.Φ b o = g.Φ b o := fun b p hb hp => by
  have hlt := (hI.tlt b p hb).2
  obtain ⟨a1, a2, a3, a4⟩ := hP.keep b hlt (by
   cases h : (g.hide id).tag b with
   | none => rfl
   | some q =>
    obtain ⟨h1, h2⟩ := hide_tag.1 h
    rw [hb] at h1; injection h1 with h1; subst h1
    rw [hp] at h2; cases h2)
  exact ⟨hlt, a1, a2, a3, a4⟩
 have hin : ∀ b p, g.tag b = some p → hidP id p = true → (g2.show g id).tag b = some p := fun b p hb hp => by
  show (if (g.tag b).any (hidP id) = true then g.tag b else g2.tag b) = _
  rw [if_pos (hany' b p hb hp)]; exact hb
 have hout : ∀ b p, g2.tag b = some p → (g2.show g id).tag b = some p := fun b p hb => by
  show (if (g.tag b).any (hidP id) = true then g.tag b else g2.tag b) = _
  rw [if_neg, hb]
  intro h
  obtain ⟨q, h1, h2⟩ := hany b h
  rw [(hkb b q h1 h2).2.2.1] at hb; cases hb
 have hG : Gle g (g2.show g id) := ⟨hP.gle.Φ, hP.gle.μ⟩
 have hG2 : Gle g2 (g2.show g id) := ⟨MemLe.refl _, fun _ e h => ⟨e, h, rfl, Nat.le_refl _, fun _ => ⟨rfl, rfl, fun _ => rfl⟩, fun _ => rfl⟩⟩
 have hK : KeepPl g (g2.show g id) w w2 (fun p => hidP id p = true) := fun b pl hb hA => by
  obtain ⟨k1, k2, k3, k4, k5⟩ := hkb b pl hb hA
  exact ⟨hin b pl hb hA, k4, fun o ho => by show g2.Φ b o = none; rw [k5]; exact ho, k2⟩
 have hK2 : KeepPl g2 (g2.show g id) w2 w2 (fun _ => True) := fun b pl hb _ => ⟨hout b pl hb, rfl, fun _ h => h, rfl⟩
 have hlt := (List.getElem?_eq_some_iff.1 h3).1
 have hsp : ∀ b pl, (g2.show g id).tag b = some pl → (g.tag b = some pl ∧ hidP id pl = true) ∨ g2.tag b = some pl := fun b pl hb => by
  have hb : (if (g.tag b).any (hidP id) = true then g.tag b else g2.tag b) = some pl := hb
  split at hb
  ·rename_i h
   obtain ⟨q, h1, h2⟩ := hany b h
   rw [h1] at hb; injection hb with hb; subst hb
   exact .inl ⟨h1, h2⟩
  ·exact .inr hb
 refine ⟨⟨h2.below, h2.base, h2.fz, fun b pl hb => ?_, fun b pl hb q1 q2 => ?_, fun t => (h2.env t).keep hG2 hK2 trivial (fun _ => trivial), fun i o ho => ?_, by rw [List.length_set]; exact h2.len, h2.glob, h2.mlt⟩, ⟨hP.size, hG, fun b hb ht => ?_, hP.loops⟩⟩
 ·rcases hsp b pl hb with ⟨h1, _⟩ | h1
  ·have := hI.tlt b pl h1
   have := hP.size
   omega
  ·exact h2.tlt b pl h1
 ·rcases hsp b pl hb with ⟨h1, hp⟩ | h1
  ·obtain ⟨C, ⟨el, hC⟩, hCs⟩ := hI.own b pl h1 q1 q2
   obtain ⟨_, k2, _, k4, _⟩ := hkb b pl h1 hp
   exact ⟨C, ⟨el, by rw [k2]; exact hC⟩, by show C.size = g2.bs b; rw [k4]; exact hCs⟩
  ·exact h2.own b pl h1 q1 q2
 ·by_cases e : id = i
  ·subst e
   rw [List.getElem?_set_self hlt] at ho
   injection ho with ho; subst ho
   have hr := hI.objs id _ h0
   refine hr.keep hG hK (by simp [hidP]) (fun _ => by simp [hidP]) (fun _ _ => by simp [hidP]) (fun e he ha => ?_)
   obtain ⟨e', he', ha', _⟩ := hr
   rw [he] at he'; injection he' with he'; subst he'
   rw [ha] at ha'; cases ha'
  ·rw [List.getElem?_set_ne e] at ho
   exact (h2.objs i o ho).keep hG2 hK2 trivial (fun _ => trivial) (fun _ _ => trivial) (fun e he _ => he)
 ·obtain ⟨a1, a2, a3, a4⟩ := hP.keep b hb (by
   cases h : (g.hide id).tag b with
   | none => rfl
   | some q => rw [(hide_tag.1 h).1] at ht; cases ht)
  refine ⟨a1, ?_, a3, a4⟩
  show (if (g.tag b).any (hidP id) = true then g.tag b else g2.tag b) = none
  rw [ht]; exact a2
theorem CallSim.frC (hC : CallSim P GL C) (id : Nat) : CallSim P GL (frC id C) := by
 constructor
 ·intro f args σ v σ' hc B0 w0 g Args w hI hl
  obtain ⟨cs, σ1, h0, h1, h2, rfl⟩ := frC_some hc
  obtain ⟨hfn, hcalls⟩ := hC.fn _ _ _ _ _ h1 B0 w0 _ Args w (hI.hide h0) hl
  refine ⟨hfn, Calls.mono hcalls fun e w' he => ?_⟩
  obtain ⟨V, g', rfl, hI', hP'⟩ := he
  obtain ⟨a, b⟩ := hI.unhide h0 hP' hI' h2
  exact ⟨V, _, rfl, a, b⟩
 ·intro i args σ v σ' hc B0 w0 g Args w hI hl
  obtain ⟨cs, σ1, h0, h1, h2, rfl⟩ := frC_some hc
  obtain ⟨e, rec, he, hrec, hsz, hround⟩ := hC.yld _ _ _ _ _ h1 B0 w0 _ Args w (hI.hide h0) hl
  refine ⟨e, rec, he, hrec, hsz, RoundIn.mono hround fun x w' hx => ?_⟩
  obtain ⟨V, g', rfl, hI', hP'⟩ := hx
  obtain ⟨a, b⟩ := hI.unhide h0 hP' hI' h2
  exact ⟨V, _, rfl, a, b⟩
 ·intro f args σ v σ' hc B0 w0 g Args w hI hl
  obtain ⟨cs, σ1, h0, h1, h2, rfl⟩ := frC_some hc
  obtain ⟨hfn, hcalls⟩ := hC.pan _ _ _ _ _ h1 B0 w0 _ Args w (hI.hide h0) hl
  refine ⟨hfn, Calls.mono hcalls fun e w' he => ?_⟩
  obtain ⟨V, g', rfl, hI', hP'⟩ := he
  obtain ⟨a, b⟩ := hI.unhide h0 hP' hI' h2
  exact ⟨V, _, rfl, a, b⟩
theorem CallSim.frK (hC : CallSim P GL C) (k : Option Nat) (base : Nat) : CallSim P GL (frK k base C) := by
 cases k with
 | none => exact hC
 | some k => exact hC.frC _
end
end Go.AM
