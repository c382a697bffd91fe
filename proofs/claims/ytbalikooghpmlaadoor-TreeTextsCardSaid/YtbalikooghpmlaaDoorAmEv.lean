/- A part of the abstract machine and its simulation. -/
import Derived.Test.YtbalikooghpmlaaDoorAmOpAll
set_option linter.unusedVariables false
set_option linter.unusedSimpArgs false
namespace Go.AM
open Go Go.RowKit
def exq : Ex → Exit → Prop
 | .normal, x => x = .normal
 | .exit id, x => x = .exit id
 | .ret, x => x = .ret
 | .pan _, x => ∃ V, x = .panic [{ v := V, recovered := false }]
def panR (g : G) : Ex → Exit → Prop
 | .pan v, x => ∃ V, x = .panic [{ v := V, recovered := false }] ∧ RelP g.Φ v V
 | _, _ => True
section
variable {GL : List (Nat × List PV)} {B0 : Nat} {w0 : World} {g : G} {env : Env} {σ : List AObj} {s : S} {tm : Array Value} {w : World} {ty : List TI} {P : Program} {H : FuncId → FH} {C : CallF} {h : FH} {base : Nat} {ro : Option Nat}
def markD (D : Nat) : Deferred := { target := .collected D, args := #[] }
def Marks (g : G) (lo : Nat) (w : World) (Ds : List Nat) : Prop := Ds.Nodup ∧ ∀ D ∈ Ds, lo ≤ D ∧ D < w.heap.size ∧ g.tag D = none ∧ w.heap[D]? = some (.deferred (some []))
theorem Marks.nil (g : G) (lo : Nat) (w : World) : Marks g lo w [] := ⟨List.nodup_nil, fun _ h => by simp at h⟩
theorem Marks.keep {g1 g2 : G} {lo : Nat} {w1 w2 : World} {Ds : List Nat} (h : Marks g1 lo w1 Ds) (hP : Post g1 w1 g2 w2) : Marks g2 lo w2 Ds := by
 refine ⟨h.1, fun D hD => ?_⟩
 obtain ⟨h1, h2, h3, h4⟩ := h.2 D hD
 obtain ⟨k1, k2, _, _⟩ := hP.keep D h2 h3
 exact ⟨h1, Nat.lt_of_lt_of_le h2 hP.size, k2, by rw [k1]; exact h4⟩
theorem Marks.app {g : G} {lo mid : Nat} {w : World} {Ds Es : List Nat} (h : Marks g lo w Ds) (k : Marks g mid w Es) (hm : ∀ D ∈ Ds, D < mid) (hl : lo ≤ mid) : Marks g lo w (Es ++ Ds) := by
 refine ⟨List.nodup_append.2 ⟨k.1, h.1, fun a ha b hb e => ?_⟩, fun D hD => ?_⟩
 ·subst e
  have := (k.2 a ha).1
  have := hm a hb
  omega
 ·rcases List.mem_append.1 hD with hD | hD
  ·obtain ⟨h1, h2⟩ := k.2 D hD
   exact ⟨by omega, h2⟩
  ·exact h.2 D hD
def EvPost (nr : Bool) (GL : List (Nat × List PV)) (B0 : Nat) (w0 : World) (g : G) (w : World) (a : Act) (e : Ex) (s' : S) : Exit → Act → World → Prop :=
 fun x a' w' => exq e x ∧ ∃ g' Ds, Inv GL B0 w0 g' s'.env s'.σ a'.tmps w' ∧ Post g w g' w' ∧ a'.tmps.size = a.tmps.size ∧ a'.defers = Ds.map markD ++ a.defers ∧ Marks g' w.heap.size w' Ds ∧ panR g' e x ∧ (nr = true → Ds = [])
theorem EvPost.mk {nr : Bool} {a a' : Act} {g g' : G} {w w' : World} {e : Ex} {s' : S} {x : Exit} (hx : exq e x) (hI : Inv GL B0 w0 g' s'.env s'.σ a'.tmps w') (hP : Post g w g' w') (hz : a'.tmps.size = a.tmps.size) (hd : a'.defers = a.defers) (hp : panR g' e x) : EvPost nr GL B0 w0 g w a e s' x a' w' :=
 ⟨hx, g', [], hI, hP, hz, hd, Marks.nil _ _ _, hp, fun _ => rfl⟩
def wpL (F : Fence) (P : Program) (c : Code) (Q : Exit → Act → World → Prop) (a : Act) (w : World) : Prop :=
 ∀ (b : Frame) (k : List Item) (cs : List Frame), b.roundOf = F.round → F.fn b.fn → F.room (cs.length + 1 + 0) → ∃ e a' w', Q e a' w' ∧ ArrivesIn (Machine.fenced P F) P (lone (b.atR a (.code c :: .inLoop c :: k)) cs w) b k cs e a' w'
theorem wp_of_wpL {F : Fence} {c : Code} {Q : Exit → Act → World → Prop} {a : Act} (h : wpL F P c Q a w) : (Code.loop c).wpIn F 0 P Q a w :=
 fun b k cs hro hb hr => let ⟨e, a', w', q, r⟩ := h b k cs hro hb hr; ⟨e, a', w', q, .of_steps (.one (fenced_calm hb hr rfl) stepR_loop) r⟩
theorem wpL_round {F : Fence} {c : Code} {Q : Exit → Act → World → Prop} {a : Act} (h : c.wpIn F 0 P (Exit.then (wpL F P c Q) Q) a w) : wpL F P c Q a w := by
 intro b k cs hro hb hr
 obtain ⟨e, a₁, w₁, hq, harr⟩ := h b (.inLoop c :: k) cs hro hb hr
 cases e with
 | normal =>
  obtain ⟨e₂, a₂, w₂, hq₂, harr₂⟩ := hq b k cs hro hb hr
  exact ⟨e₂, a₂, w₂, hq₂, .of_steps (StepsIn.trans harr (.one (fenced_calm hb hr rfl) stepR_inLoop)) harr₂⟩
 | exit id => exact ⟨_, a₁, w₁, hq, .pass (x := .inLoop c) rfl (fun _ _ => .inl (by simp)) harr⟩
 | goto l => exact ⟨_, a₁, w₁, hq, .pass (x := .inLoop c) rfl (fun _ _ => .inl (by simp)) harr⟩
 | ret => exact ⟨_, a₁, w₁, hq, .pass (x := .inLoop c) rfl (fun _ _ => .inl (by simp)) harr⟩
 | panic ch => exact ⟨_, a₁, w₁, hq, .pass (x := .inLoop c) rfl (fun _ _ => .inl (by simp)) harr⟩
 | outgrown => exact ⟨_, a₁, w₁, hq, .pass (x := .inLoop c) rfl (fun _ _ => .inl (by simp)) harr⟩
theorem Inv.know (hI : Inv GL B0 w0 g env σ tm w) {d : Nat} {v : PV} (hv : RelP g.Φ v (tm.getD d Go.undef)) : Inv GL B0 w0 g ((d, .p v) :: env) σ tm w := by
 refine ⟨hI.below, hI.base, hI.fz, hI.tlt, hI.own, fun t => ?_, hI.objs, hI.len, hI.glob, hI.mlt⟩
 simp only [get, beq_iff_eq]
 split
 ·rename_i e; subst e; exact RelS.of_A (RelA.of_p hv)
 ·exact hI.env t
theorem rel_ud {Φ : Mem} : RelP Φ (.tup []) Go.undef := by unfold RelP RelPL; exact ⟨[], rfl, rfl⟩
theorem rel_ud_eq {Φ : Mem} {V : Value} (h : RelP Φ (.tup []) V) : V = Go.undef := by
 unfold RelP at h
 obtain ⟨Vs, e, h⟩ := h
 unfold RelPL at h
 subst h; exact e
theorem Inv.udO (hI : Inv GL B0 w0 g env σ tm w) {d : Option Nat} (hd : ∀ d', d = some d' → d' < tm.size) : Inv GL B0 w0 g (putE env d udV) σ (putT tm d Go.undef) w :=
 hI.putO hd (by unfold udV RelA; exact rel_ud)
theorem drop_cons_get {α : Type} {l os : List α} {o : α} {i : Nat} (h : l.drop i = o :: os) : l[i]? = some o ∧ l.drop (i + 1) = os := by
 refine ⟨?_, ?_⟩
 ·have := List.getElem?_drop (xs := l) (i := i) (j := 0)
  rw [h] at this
  simpa using this.symm
 ·have : l.drop (i + 1) = (l.drop i).drop 1 := by rw [List.drop_drop]
  rw [this, h]; rfl
def exR : Rs → Ex
 | .ok _ => .normal
 | .pan v _ => .pan v
theorem ops_wp (hT : TabOk P ⟨ty, GL⟩) (hC : CallSim P GL C) (hG0 : ∀ f args v σ', (H f).pu = true → C (.fn f) args [] = some (.ret v, σ') → ltV 0 v = true) (hFr : ∀ id args v σ σ', C (.yld id) args σ ≠ some (.pan v, σ')) {N : Nat} (ops : Array Oper) {nr : Bool} {a0 : Act} {g0 : G} {w00 : World} {r : Rs} :
 ∀ (os : List Oper) (i : Nat) (s : S) (a : Act) (g : G) (w : World), ops.toList.drop i = os → (∀ o ∈ os, opOk N o = true) → N ≤ a.tmps.size → Inv GL B0 w0 g s.env s.σ a.tmps w → Post g0 w00 g w → a.tmps.size = a0.tmps.size → a.defers = a0.defers →
  stepOps ⟨⟨ty, GL⟩, H, C, h, base⟩ ops.toList os s = some r → wpOpsIn (FW ro) 0 P ops (EvPost nr GL B0 w0 g0 w00 a0 (exR r) r.st) (List.range' i os.length) a w
 | [], i, s, a, g, w, _, _, hN, hI, hP, hsz, hdf, hs => by
  unfold stepOps at hs
  injection hs with hs; subst hs
  exact EvPost.mk rfl hI hP hsz hdf trivial
 | o :: os, i, s, a, g, w, hdr, hok, hN, hI, hP, hsz, hdf, hs => by
  obtain ⟨hoi, hdr'⟩ := drop_cons_get hdr
  rw [Array.getElem?_toList] at hoi
  have hoo := hok o (by simp)
  have hrest := fun x hx => hok x (List.mem_cons_of_mem o hx)
  have hdd : ∀ d', o.dst = some d' → d' < a.tmps.size := fun d e => by
   unfold opOk at hoo
   simp only [e, Bool.and_eq_true, decide_eq_true_eq] at hoo
   exact Nat.lt_of_lt_of_le hoo.1.1 hN
  show wpOpsIn (FW ro) 0 P ops _ (i :: List.range' (i + 1) os.length) a w
  simp only [wpOpsIn, hoi]
  have taken : ∀ {s1 : S}, Inv GL B0 w0 g s1.env s1.σ a.tmps w → thenR (stepOps ⟨⟨ty, GL⟩, H, C, h, base⟩ ops.toList os) (stepOp ⟨⟨ty, GL⟩, H, C, h, base⟩ o s1) = some r →
   o.wpIn (FW ro) 0 P a w (wpOpsIn (FW ro) 0 P ops (EvPost nr GL B0 w0 g0 w00 a0 (exR r) r.st) (List.range' (i + 1) os.length)) (EvPost nr GL B0 w0 g0 w00 a0 (exR r) r.st) := by
   intro s1 hI1 h1
   cases hst : stepOp ⟨⟨ty, GL⟩, H, C, h, base⟩ o s1 with
   | none => rw [hst] at h1; cases h1
   | some r1 =>
    rw [hst] at h1
    cases r1 with
    | pan v s2 =>
     injection h1 with h1; subst h1
     exact op_pan hC hFr hN hoo hI1 hst (fun V g' w' hv hI2 hP2 => ⟨⟨V, rfl⟩, g', [], hI2, hP.trans hP2, hsz, hdf, Marks.nil _ _ _, ⟨V, rfl, hv⟩, fun _ => rfl⟩)
    | ok s2 =>
     exact op_wp hT hC hG0 hN hoo hI1 hst (fun a' w' g' hI2 hP2 hz hd2 => ops_wp hT hC hG0 hFr ops os (i + 1) s2 a' g' w' hdr' hrest (by rw [hz]; exact hN) hI2 (hP.trans hP2) (hz.trans hsz) (hd2.trans hdf) h1)
  unfold stepOps at hs
  cases hg : o.guard with
  | none =>
   have hgo : guardOf ops.toList s.env o = some none := by unfold guardOf; rw [hg]
   rw [hgo] at hs
   have hw : Region.wanted o (yielded ops a.tmps) = true := by unfold Region.wanted; rw [hg]
   rw [if_pos hw]
   exact (taken hI hs)
  | some gw =>
   obtain ⟨j, want⟩ := gw
   cases hgo : guardOf ops.toList s.env o with
   | none => rw [hgo] at hs; cases hs
   | some rg =>
    rw [hgo] at hs
    unfold guardOf at hgo
    rw [hg] at hgo
    dsimp only at hgo
    split at hgo
    ·rename_i oj hoj
     split at hgo
     ·rename_i d hd
      have hr := hI.env d
      split at hgo
      ·rename_i b hb
       injection hgo with hgo; subst hgo
       rw [hb] at hr
       have hv : a.tmps.getD d Go.undef = .bool b := by
        have : RelX g (.tmp d) (.p (.lit (.bool b))) (a.tmps.getD d Go.undef) := hr
        exact RelP.lit this.pure
       have hy : yielded ops a.tmps j = some b := by
        unfold yielded
        rw [Array.getElem?_toList] at hoj
        rw [Array.getD_eq_getD_getElem?] at hv
        cases hq : a.tmps[d]? with
        | none => rw [hq] at hv; cases hv
        | some u =>
         rw [hq] at hv
         simp only [Option.getD_some] at hv
         subst hv
         simp [hoj, hd, hq]
       have hw : Region.wanted o (yielded ops a.tmps) = (b == want) := by
        unfold Region.wanted
        rw [hg]
        simp only [hy]
        cases b <;> cases want <;> rfl
       have hkn : ∀ v, v = b → Inv GL B0 w0 g ((d, .p (.lit (.bool v))) :: s.env) s.σ a.tmps w := fun v e => hI.know (by rw [hv, e]; unfold RelP; exact ⟨rfl, rfl⟩)
       dsimp only at hs
       split at hs
       ·rename_i hbw
        injection hbw with hbw
        rw [hw, hbw, if_pos (by simp)]
        exact (taken (s1 := s.put (some d) (.p (.lit (.bool want)))) (hkn want hbw.symm) hs)
       ·rename_i hbw
        have hbw : ¬ b = want := fun e => hbw (by rw [e])
        have hf : (b == want) = false := by simpa using hbw
        rw [hw, hf, if_neg (by simp)]
        refine ⟨fun _ _ => trivial, ?_⟩
        obtain ⟨e1, e2⟩ := act_put a o.dst Go.undef
        have hnb : (!want) = b := by cases b <;> cases want <;> simp_all
        have hI3 := (hkn (!want) hnb).udO hdd
        refine ops_wp hT hC hG0 hFr ops os (i + 1) _ (a.put o.dst Go.undef) g w hdr' hrest (by rw [e1, putT_size]; exact hN) (by rw [e1]; exact hI3) hP (by rw [e1, putT_size]; exact hsz) (e2.trans hdf) hs
      ·rename_i hb
       injection hgo with hgo; subst hgo
       rw [hb] at hr
       have hv : a.tmps.getD d Go.undef = Go.undef := by
        have : RelX g (.tmp d) (.p (.tup [])) (a.tmps.getD d Go.undef) := hr
        exact rel_ud_eq this.pure
       have hy : yielded ops a.tmps j = none := by
        unfold yielded
        rw [Array.getElem?_toList] at hoj
        rw [Array.getD_eq_getD_getElem?] at hv
        cases hq : a.tmps[d]? with
        | none => simp [hoj, hd, hq]
        | some u =>
         rw [hq] at hv
         simp only [Option.getD_some] at hv
         subst hv
         simp [hoj, hd, hq, Go.undef]
       have hw : Region.wanted o (yielded ops a.tmps) = false := by
        unfold Region.wanted
        rw [hg]
        simp only [hy]
        rfl
       dsimp only at hs
       rw [if_neg (by simp)] at hs
       rw [hw, if_neg (by simp)]
       refine ⟨fun _ _ => trivial, ?_⟩
       obtain ⟨e1, e2⟩ := act_put a o.dst Go.undef
       have hkn : Inv GL B0 w0 g ((d, udV) :: s.env) s.σ a.tmps w := hI.know (by rw [hv]; exact rel_ud)
       have hI3 := hkn.udO hdd
       exact ops_wp hT hC hG0 hFr ops os (i + 1) _ (a.put o.dst Go.undef) g w hdr' hrest (by rw [e1, putT_size]; exact hN) (by rw [e1]; exact hI3) hP (by rw [e1, putT_size]; exact hsz) (e2.trans hdf) hs
      ·cases hgo
     ·cases hgo
    ·cases hgo
end
end Go.AM
