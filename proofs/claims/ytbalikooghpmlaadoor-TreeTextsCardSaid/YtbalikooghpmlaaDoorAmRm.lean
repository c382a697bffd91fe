/- A part of the abstract machine and its simulation. -/
import Derived.Test.YtbalikooghpmlaaDoorAmCall
set_option linter.unusedVariables false
set_option linter.unusedSimpArgs false
namespace Go.AM
open Go Go.RowKit
def goesM (N ia : Nat) : Pl → Option Pl
 | .slot t => if N ≤ t then some (.slot (t - N)) else none
 | .comp t i => if N ≤ t then some (.comp (t - N) i) else none
 | .mark => none
 | .obj id => if id = ia then some (.obj 0) else none
 | .cell id j => if id = ia then some (.cell 0 j) else none
 | .elem id i j => if id = ia then some (.elem 0 i j) else none
def comesM (d ia : Nat) : Pl → Option Pl
 | .slot t => if t = 0 then some (.slot d) else none
 | .comp t i => if t = 0 then some (.comp d i) else none
 | .mark => none
 | .obj id => if id = 0 then some (.obj ia) else none
 | .cell id j => if id = 0 then some (.cell ia j) else none
 | .elem id i j => if id = 0 then some (.elem ia i j) else none
def G.calleeM (g : G) (N ia : Nat) (e : ME) : G := ⟨g.Φ, g.bs, [e], fun b => (g.tag b).bind (goesM N ia)⟩
def keptM (g : G) (N ia : Nat) (b : Nat) : Bool :=
 match g.tag b with
 | some p => (goesM N ia p).isNone
 | none => false
def G.backM (g g2 : G) (N d ia : Nat) : G := ⟨g2.Φ, g2.bs, g.μ, fun b => if keptM g N ia b = true then g.tag b else (g2.tag b).bind (comesM d ia)⟩
section
variable {GL : List (Nat × List PV)} {B0 : Nat} {w0 : World} {g : G} {env : Env} {σ : List AObj} {tm : Array Value} {w : World} {ty : List TI} {h : FH}
theorem rmArgs_get {ia : Nat} : ∀ {l l' : List AV}, rmArgs ia l = some l' → l'.length = l.length ∧ ∀ (i : Nat) v, l[i]? = some v → ∃ v', l'[i]? = some v' ∧ rmArg ia v = some v'
 | [], l', h => by injection h with h; subst h; exact ⟨rfl, fun i v hv => by simp at hv⟩
 | x :: l, l', h => by
  unfold rmArgs at h
  split at h
  ·rename_i y ys h1 h2
   injection h with h; subst h
   obtain ⟨k1, k2⟩ := rmArgs_get h2
   refine ⟨by simp [k1], fun i v hv => ?_⟩
   cases i with
   | zero => simp at hv; subst hv; exact ⟨y, by simp, h1⟩
   | succ i => simp at hv; simpa using k2 i v hv
  ·cases h
theorem Inv.splitM {Args : Array Value} {args args' : List AV} {ia : Nat} {rc : Bool} {ob : AObj} {e : ME} (hI : Inv GL B0 w0 g env σ (tm ++ Args) w) (hl : args.length = Args.size) (ha : ∀ i, i < args.length → get env (tm.size + i) = (args[i]?).getD .undef)
 (hm : rmArgs ia args = some args') (ho : σ[ia]? = some ob) (hr0 : rmOb rc ob = true) (he : g.μ[ia]? = some e) : Inv GL B0 w0 (g.calleeM tm.size ia e) (envOf 0 args') [ob] Args w := by
 obtain ⟨hml, hmg⟩ := rmArgs_get hm
 have htag : ∀ b pl, (g.calleeM tm.size ia e).tag b = some pl → ∃ p, g.tag b = some p ∧ goesM tm.size ia p = some pl := fun b pl hb => Option.bind_eq_some_iff.1 hb
 have htg : ∀ b p pl, g.tag b = some p → goesM tm.size ia p = some pl → (g.calleeM tm.size ia e).tag b = some pl := fun b p pl hb hp => by
  show (g.tag b).bind _ = _
  rw [hb]; exact hp
 refine ⟨hI.below, hI.base, hI.fz, fun b pl hb => ?_, fun b pl hb h1 h2 => ?_, fun t => ?_, fun id o hob => ?_, rfl, hI.glob, fun id e' he' => ?_⟩
 ·obtain ⟨p, hp, _⟩ := htag b pl hb
  exact hI.tlt b p hp
 ·obtain ⟨p, hp, hg⟩ := htag b pl hb
  refine hI.own b p hp (fun id e => ?_) (fun e => ?_)
  ·subst e
   simp only [goesM] at hg
   split at hg
   ·injection hg with hg; exact h1 0 hg.symm
   ·cases hg
  ·subst e; cases hg
 ·rw [get_envOf, if_pos (Nat.zero_le _), Nat.sub_zero]
  by_cases ht : t < args'.length
  ·have ht' : t < args.length := by omega
   have hr := hI.env (tm.size + t)
   rw [ha t ht', append_get_ge, List.getElem?_eq_getElem ht'] at hr
   obtain ⟨v', hv', hv⟩ := hmg t _ (List.getElem?_eq_getElem ht')
   rw [hv']
   simp only [Option.getD_some] at hr ⊢
   generalize args[t] = v at hr hv
   have k1 : ∀ b, g.tag b = some (.slot (tm.size + t)) → (g.calleeM tm.size ia e).tag b = some (.slot t) := fun b hb => htg b _ _ hb (by simp [goesM])
   have k2 : ∀ i b, g.tag b = some (.comp (tm.size + t) i) → (g.calleeM tm.size ia e).tag b = some (.comp t i) := fun i b hb => htg b _ _ hb (by simp [goesM])
   have pure : ltV 0 v = true → RelS (g.calleeM tm.size ia e) t v (Args.getD t Go.undef) := fun hv => by
    have hr' := hr.trunc (n := 0) hv
    exact hr'.to (g := g.trunc 0) ⟨MemLe.refl _, fun id e he => by simp [G.trunc] at he⟩ (fun b hb => ⟨k1 b hb, rfl, fun _ h => h⟩) (fun i b hb => ⟨k2 i b hb, rfl, fun _ h => h⟩)
   unfold rmArg at hv
   split at hv
   ·injection hv with hv; subst hv; exact pure rfl
   ·injection hv with hv; subst hv; exact pure rfl
   ·rename_i id' gg zz off len
    split at hv
    ·rename_i hid
     injection hv with hv; subst hv; subst hid
     have hr : RelA g (fun b => g.tag b = some (.slot (tm.size + t))) (.ms id' gg zz off len) (Args.getD t Go.undef) := hr
     unfold RelA at hr
     obtain ⟨e1, he1, hq⟩ := hr
     rw [he] at he1; injection he1 with he1; subst he1
     show RelA (g.calleeM tm.size id' e) (fun b => (g.calleeM tm.size id' e).tag b = some (.slot t)) (.ms 0 gg zz off len) _
     unfold RelA
     exact ⟨e, rfl, hq⟩
    ·cases hv
   ·rename_i id' off
    split at hv
    ·rename_i hid
     injection hv with hv; subst hv; subst hid
     have hr : RelA g (fun b => g.tag b = some (.slot (tm.size + t))) (.ptr id' off) (Args.getD t Go.undef) := hr
     unfold RelA at hr
     obtain ⟨e1, he1, hq⟩ := hr
     rw [he] at he1; injection he1 with he1; subst he1
     show RelA (g.calleeM tm.size id' e) (fun b => (g.calleeM tm.size id' e).tag b = some (.slot t)) (.ptr 0 off) _
     unfold RelA
     exact ⟨e, rfl, hq⟩
    ·cases hv
   ·rename_i id' zz
    injection hv with hv; subst hv
    have hr : RelA g (fun b => g.tag b = some (.slot (tm.size + t))) (.nms id' zz) (Args.getD t Go.undef) := hr
    unfold RelA at hr
    obtain ⟨_, _, _, hr⟩ := hr
    rw [hr]
    show RelA (g.calleeM tm.size ia e) (fun b => (g.calleeM tm.size ia e).tag b = some (.slot t)) (.p (.sl none zz [])) _
    unfold RelA RelP
    exact ⟨none, 0, rfl, Nat.le_refl _, (fun h => by cases h), (fun h => by cases h), .inl ⟨rfl, rfl⟩⟩
   ·cases hv
  ·rw [List.getElem?_eq_none (by omega)]
   unfold RelS; simp only [Option.getD_none]; unfold RelA; trivial
 ·cases id with
  | succ id => simp at hob
  | zero =>
   simp at hob; subst hob
   have hob' := hI.objs ia _ ho
   cases ob with
   | cells cs =>
    obtain ⟨e', he', hea, ht, hf, D, hD, hDs, hj⟩ := hob'
    rw [he] at he'; injection he' with he'; subst he'
    have hr0 : ltL 0 cs = true := by simp [rmOb] at hr0; exact hr0.2
    refine ⟨e, rfl, hea, htg _ _ _ ht (by simp [goesM]), hf, D, hD, hDs, fun j c hc => ?_⟩
    obtain ⟨u, hu, o1, rr⟩ := hj j c hc
    refine ⟨u, hu, o1, ?_⟩
    have rr' := RelA.trunc (n := 0) _ _ _ (ltL_iff.1 hr0 c (List.mem_of_getElem? hc)) rr
    exact rr'.mono (g := g.trunc 0) (g' := g.calleeM tm.size ia e) ⟨MemLe.refl _, fun id e he => by simp [G.trunc] at he⟩ _ _ _ _ (fun b hb => ⟨htg b (.cell ia j) (.cell 0 j) hb (by simp [goesM]), rfl, fun _ h => h⟩)
   | arr gn sz rows =>
   have hr0 : ltR 0 rows = true := hr0
   obtain ⟨e', he', hea, heg, hesz, ht, hf, D, hD, hDs, hlr, hrl, hj⟩ := hob'
   rw [he] at he'; injection he' with he'; subst he'
   refine ⟨e, rfl, hea, heg, hesz, htg _ _ _ ht (by simp [goesM]), hf, D, hD, hDs, hlr, hrl, fun i r j c hi hc => ?_⟩
   obtain ⟨u, hu, o1, rr⟩ := hj i r j c hi hc
   refine ⟨u, hu, o1, ?_⟩
   have hc0 := ltR_iff.1 hr0 r (List.mem_of_getElem? hi) c (List.mem_of_getElem? hc)
   have rr' := RelA.trunc (n := 0) _ _ _ hc0 rr
   exact rr'.mono (g := g.trunc 0) (g' := g.calleeM tm.size ia e) ⟨MemLe.refl _, fun id e he => by simp [G.trunc] at he⟩ _ _ _ _ (fun b hb => ⟨htg b (.elem ia i j) (.elem 0 i j) hb (by simp [goesM]), rfl, fun _ h => h⟩)
   | _ => simp [rmOb] at hr0
 ·cases id with
  | succ id => simp [G.calleeM] at he'
  | zero =>
   simp [G.calleeM] at he'; subst he'
   exact hI.mlt ia e he
theorem Inv.rmEnv {Args : Array Value} {args args' : List AV} (hI : Inv GL B0 w0 g env σ (tm ++ Args) w) (hl : args.length = Args.size) (ha : ∀ i, i < args.length → get env (tm.size + i) = (args[i]?).getD .undef)
 (hm : rmArgs 0 args = some args') (hp : pureArgs args' = true) : ∃ env2, Inv GL B0 w0 g env2 σ (tm ++ Args) w ∧ (∀ t, t < tm.size → get env2 t = get env t) ∧ ∀ i, i < args'.length → get env2 (tm.size + i) = (args'[i]?).getD .undef := by
 obtain ⟨hml, hmg⟩ := rmArgs_get hm
 have hg : ∀ (l : List AV) (k : Nat) (t : Nat), get (envOf k l ++ env) t = if k ≤ t ∧ t < k + l.length then (l[t - k]?).getD .undef else get env t := by
  intro l
  induction l with
  | nil => intro k t; rw [if_neg (by simp only [List.length_nil]; omega)]; rfl
  | cons v l ih =>
   intro k t
   show (if k == t then v else get (envOf (k + 1) l ++ env) t) = _
   rw [ih]
   by_cases h1 : k = t
   ·subst h1
    simp
   ·simp only [beq_iff_eq, h1, if_false]
    by_cases h2 : k + 1 ≤ t ∧ t < k + 1 + l.length
    ·rw [if_pos h2, if_pos (by simp only [List.length_cons]; omega), show t - k = (t - (k + 1)) + 1 by omega, List.getElem?_cons_succ]
    ·rw [if_neg h2, if_neg (by simp only [List.length_cons]; omega)]
 refine ⟨envOf tm.size args' ++ env, ⟨hI.below, hI.base, hI.fz, hI.tlt, hI.own, fun t => ?_, hI.objs, hI.len, hI.glob, hI.mlt⟩, fun t ht => by rw [hg, if_neg (by omega)], fun i hi => by rw [hg, if_pos ⟨by omega, by omega⟩, Nat.add_sub_cancel_left]⟩
 rw [hg]
 split
 ·rename_i hc
  obtain ⟨i, rfl⟩ : ∃ i, t = tm.size + i := ⟨t - tm.size, by omega⟩
  have hi : i < args.length := by omega
  have hr := hI.env (tm.size + i)
  rw [ha i hi, List.getElem?_eq_getElem hi] at hr
  obtain ⟨v', hv', hv⟩ := hmg i _ (List.getElem?_eq_getElem hi)
  rw [Nat.add_sub_cancel_left, hv']
  simp only [Option.getD_some] at hr ⊢
  have hpv : pureArg v' = true := by
   have : ∀ {l : List AV}, pureArgs l = true → ∀ x ∈ l, pureArg x = true := by
    intro l
    induction l with
    | nil => intro _ x hx; simp at hx
    | cons y l ih =>
     intro h x hx
     unfold pureArgs at h
     simp only [Bool.and_eq_true] at h
     rcases List.mem_cons.1 hx with rfl | hx
     ·exact h.1
     ·exact ih h.2 x hx
   exact this hp v' (List.mem_of_getElem? hv')
  generalize args[i] = v at hr hv
  unfold rmArg at hv
  split at hv
  ·injection hv with hv; subst hv; exact hr
  ·injection hv with hv; subst hv; exact hr
  ·split at hv
   ·injection hv with hv; subst hv; cases hpv
   ·cases hv
  ·split at hv
   ·injection hv with hv; subst hv; cases hpv
   ·cases hv
  ·rename_i id' zz
   injection hv with hv; subst hv
   have hr : RelA g (fun b => g.tag b = some (.slot (tm.size + i))) (.nms id' zz) ((tm ++ Args).getD (tm.size + i) Go.undef) := hr
   unfold RelA at hr
   obtain ⟨_, _, _, hr⟩ := hr
   rw [hr]
   show RelA g (fun b => g.tag b = some (.slot (tm.size + i))) (.p (.sl none zz [])) _
   unfold RelA RelP
   exact ⟨none, 0, rfl, Nat.le_refl _, (fun h => by cases h), (fun h => by cases h), .inl ⟨rfl, rfl⟩⟩
  ·cases hv
 ·exact hI.env t
theorem Inv.joinM {Args : Array Value} {env0 : Env} {g0 : G} {g2 : G} {w2 : World} {v : AV} {V : Value} {d ia : Nat} {rc : Bool} {ob : AObj} {e : ME} (hI : Inv GL B0 w0 g env σ (tm ++ Args) w)
 (h0 : ∀ t, t < tm.size → get env0 t = get env t) (h1 : ∀ t, tm.size ≤ t → RelS g0 t (get env0 t) Go.undef) (ho : σ[ia]? = some ob) (hr0 : rmOb rc ob = true) (he : g.μ[ia]? = some e)
 (hP : Post (g.calleeM tm.size ia e) w g2 w2) (h2 : Inv GL B0 w0 g2 [(0, v)] [ob] #[V] w2) (hv : ltV 0 v = true) (hd : d < tm.size) :
 ∃ g3, Inv GL B0 w0 g3 ((d, v) :: env0) σ (putT tm (some d) V) w2 ∧ Post g w g3 w2 := by
 have hkt : ∀ b p, g.tag b = some p → goesM tm.size ia p = none → keptM g tm.size ia b = true := fun b p hp hg => by simp [keptM, hp, hg]
 have hkb : ∀ b, keptM g tm.size ia b = true → ∃ p, g.tag b = some p ∧ goesM tm.size ia p = none := fun b hb => by
  unfold keptM at hb
  split at hb
  ·rename_i p hp; exact ⟨p, hp, by simpa using hb⟩
  ·cases hb
 have hkc : ∀ b, keptM g tm.size ia b = true → b < w.heap.size ∧ w2.heap[b]? = w.heap[b]? ∧ g2.tag b = none ∧ g2.bs b = g.bs b ∧ ∀ o, g2.Φ b o = g.Φ b o := fun b hb => by
  obtain ⟨p, hp, hg⟩ := hkb b hb
  have hlt := (hI.tlt b p hp).2
  obtain ⟨a1, a2, a3, a4⟩ := hP.keep b hlt (by show (g.tag b).bind _ = none; rw [hp]; exact hg)
  exact ⟨hlt, a1, a2, a3, a4⟩
 have hg3k : ∀ b, keptM g tm.size ia b = true → (g.backM g2 tm.size d ia).tag b = g.tag b := fun b hb => by simp [G.backM, hb]
 have hg3n : ∀ b pl, g2.tag b = some pl → (g.backM g2 tm.size d ia).tag b = comesM d ia pl := fun b pl hb => by
  have : ¬ keptM g tm.size ia b = true := fun hk => by rw [(hkc b hk).2.2.1] at hb; cases hb
  simp [G.backM, this, hb]
 obtain ⟨e2, he2, hee, hbs⟩ : ∃ e2, g2.μ[0]? = some e2 ∧ e2 = e ∧ (e.arr = true ∧ 0 < e.sz → g2.bs e.blk = g.bs e.blk) := by
  obtain ⟨e', q1, q2, q3, q4, q5⟩ := hP.gle.μ 0 e rfl
  refine ⟨e', q1, ?_⟩
  have h0 := hI.objs ia _ ho
  have h2' := h2.objs 0 _ rfl
  cases ob with
  | cells cs =>
   obtain ⟨e0, he0, hea0, _⟩ := h0
   rw [he] at he0; injection he0 with he0; subst he0
   exact ⟨q5 hea0, fun h => by rw [hea0] at h; cases h.1⟩
  | arr gn sz rows =>
   obtain ⟨e0, he0, hea0, heg0, hesz0, _⟩ := h0
   obtain ⟨e2, he2, hea2, heg2, hesz2, _⟩ := h2'
   rw [he] at he0; injection he0 with he0; subst he0
   rw [he2] at q1; injection q1 with q1; subst q1
   obtain ⟨r1, r2, r3⟩ := q4 (by rw [heg2, heg0])
   refine ⟨?_, r3⟩
   obtain ⟨a1, a2, a3, a4⟩ := e2
   obtain ⟨b1, b2, b3, b4⟩ := e
   simp only at heg2 heg0 r1 r2 q2
   rw [r1, r2, q2, heg2, heg0]
  | _ => simp [rmOb] at hr0
 subst hee
 have hμ : ∀ (id : Nat) e1, g.μ[id]? = some e1 → e1.arr = true ∧ 0 < e1.sz → g2.bs e1.blk = g.bs e1.blk := fun id e1 he1 hz => by
  by_cases hid : id = ia
  ·subst hid
   rw [he] at he1; injection he1 with he1; subst he1
   exact hbs hz
  ·have ht := hI.obj_tag he1 hz
   exact (hkc _ (hkt _ _ ht (by simp [goesM, hid]))).2.2.2.1
 have hG : Gle g (g.backM g2 tm.size d ia) := ⟨hP.gle.Φ, fun id e1 he1 => ⟨e1, he1, rfl, Nat.le_refl _, fun _ => ⟨rfl, rfl, hμ id e1 he1⟩, fun _ => rfl⟩⟩
 have hK : KeepPl g (g.backM g2 tm.size d ia) w w2 (fun p => goesM tm.size ia p = none) := fun b pl hb hA => by
  have hk := hkt b pl hb hA
  obtain ⟨k1, k2, k3, k4, k5⟩ := hkc b hk
  exact ⟨by rw [hg3k b hk]; exact hb, k4, fun o ho => by show g2.Φ b o = none; rw [k5]; exact ho, k2⟩
 have hT : Gle (g2.trunc 0) (g.backM g2 tm.size d ia) := ⟨MemLe.refl _, fun id e he => by simp [G.trunc] at he⟩
 refine ⟨g.backM g2 tm.size d ia, ⟨h2.below, h2.base, h2.fz, fun b pl hb => ?_, fun b pl hb k1 k2 => ?_, fun t => ?_, fun id o hob => ?_, hI.len, h2.glob, fun id e1 he1 => ?_⟩, ⟨hP.size, hG, fun b hb ht => ?_, hP.loops⟩⟩
 ·by_cases hk : keptM g tm.size ia b = true
  ·rw [hg3k b hk] at hb
   have := hI.tlt b pl hb
   have := hP.size
   omega
  ·simp only [G.backM, hk] at hb
   obtain ⟨p, hp, _⟩ := Option.bind_eq_some_iff.1 hb
   exact h2.tlt b p hp
 ·by_cases hk : keptM g tm.size ia b = true
  ·rw [hg3k b hk] at hb
   obtain ⟨C, ⟨el, hC⟩, hCs⟩ := hI.own b pl hb k1 k2
   obtain ⟨_, q2, _, q4, _⟩ := hkc b hk
   exact ⟨C, ⟨el, by rw [q2]; exact hC⟩, by show C.size = g2.bs b; rw [q4]; exact hCs⟩
  ·simp only [G.backM, hk] at hb
   obtain ⟨p, hp, hc⟩ := Option.bind_eq_some_iff.1 hb
   refine h2.own b p hp (fun id e => ?_) (fun e => ?_)
   ·subst e
    simp only [comesM] at hc
    split at hc
    ·injection hc with hc; exact k1 ia hc.symm
    ·cases hc
   ·subst e; cases hc
 ·rw [putT_get hd]
  by_cases e : d = t
  ·subst e
   simp only [if_true, get, beq_self_eq_true]
   have hr := h2.env 0
   simp only [get, beq_self_eq_true, if_true] at hr
   have hr : RelS g2 0 v V := hr
   have q1 : ∀ b, g2.tag b = some (.slot 0) → (g.backM g2 tm.size d ia).tag b = some (.slot d) := fun b hb => by rw [hg3n b _ hb]; simp [comesM]
   have q2 : ∀ i b, g2.tag b = some (.comp 0 i) → (g.backM g2 tm.size d ia).tag b = some (.comp d i) := fun i b hb => by rw [hg3n b _ hb]; simp [comesM]
   have hr' := hr.trunc (n := 0) hv
   exact hr'.to (g := g2.trunc 0) hT (fun b hb => ⟨q1 b hb, rfl, fun _ h => h⟩) (fun i b hb => ⟨q2 i b hb, rfl, fun _ h => h⟩)
  ·rw [if_neg e]
   simp only [get, beq_iff_eq, e, if_false]
   by_cases ht : t < tm.size
   ·have hr := hI.env t
    rw [append_get_lt ht, ← h0 t ht] at hr
    exact hr.keep hG hK (by simp [goesM]; omega) (fun i => by simp [goesM]; omega)
   ·have : tm.getD t Go.undef = Go.undef := by
     rw [Array.getD_eq_getD_getElem?, Array.getElem?_eq_none (by omega)]; rfl
    rw [this]
    exact (h1 t (by omega)).undef_any
 ·by_cases hid : id = ia
  ·subst hid
   rw [ho] at hob; injection hob with hob; subst hob
   have h2' := h2.objs 0 _ rfl
   cases ob with
   | cells cs =>
    obtain ⟨e3, he3, hea2, ht2, hf2, D2, hD2, hDs2, hj2⟩ := h2'
    rw [he2] at he3; injection he3 with he3; subst he3
    have hr0 : ltL 0 cs = true := by simp [rmOb] at hr0; exact hr0.2
    refine ⟨e2, he, hea2, by rw [hg3n _ _ ht2]; simp [comesM], hf2, D2, hD2, hDs2, fun j c hc => ?_⟩
    obtain ⟨u, hu, o1, rr⟩ := hj2 j c hc
    refine ⟨u, hu, o1, ?_⟩
    have rr' := RelA.trunc (n := 0) _ _ _ (ltL_iff.1 hr0 c (List.mem_of_getElem? hc)) rr
    exact rr'.mono (g := g2.trunc 0) hT _ _ _ _ (fun b hb => ⟨by rw [hg3n b _ hb]; simp [comesM], rfl, fun _ h => h⟩)
   | arr gn sz rows =>
    obtain ⟨e3, he3, hea2, heg2, hesz2, ht2, hf2, D2, hD2, hDs2, hlr2, hrl2, hj2⟩ := h2'
    rw [he2] at he3; injection he3 with he3; subst he3
    have hr0 : ltR 0 rows = true := hr0
    refine ⟨e2, he, hea2, heg2, hesz2, by rw [hg3n _ _ ht2]; simp [comesM], hf2, D2, hD2, hDs2, hlr2, hrl2, fun i r j c hi hc => ?_⟩
    obtain ⟨u, hu, o1, rr⟩ := hj2 i r j c hi hc
    refine ⟨u, hu, o1, ?_⟩
    have hc0 := ltR_iff.1 hr0 r (List.mem_of_getElem? hi) c (List.mem_of_getElem? hc)
    have rr' := RelA.trunc (n := 0) _ _ _ hc0 rr
    exact rr'.mono (g := g2.trunc 0) hT _ _ _ _ (fun b hb => ⟨by rw [hg3n b _ hb]; simp [comesM], rfl, fun _ h => h⟩)
   | _ => simp [rmOb] at hr0
  ·exact (hI.objs id o hob).keep hG hK (by simp [goesM, hid]) (fun _ => by simp [goesM, hid]) (fun _ _ => by simp [goesM, hid]) (fun e he _ => he)
 ·have := hI.mlt id e1 he1
  have := hP.size
  omega
 ·obtain ⟨a1, a2, a3, a4⟩ := hP.keep b hb (by show (g.tag b).bind _ = none; rw [ht]; rfl)
  have : ¬ keptM g tm.size ia b = true := by simp [keptM, ht]
  exact ⟨a1, by simp [G.backM, this, a2], a3, a4⟩
end
end Go.AM
