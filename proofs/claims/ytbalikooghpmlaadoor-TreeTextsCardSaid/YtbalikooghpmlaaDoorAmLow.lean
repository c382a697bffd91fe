/- A part of the abstract machine and its simulation. -/
import Derived.Test.YtbalikooghpmlaaDoorAmLim
import Derived.Test.YtbalikooghpmlaaDoorAmApp
set_option linter.unusedVariables false
set_option linter.unusedSimpArgs false
namespace Go.AM
open Go
mutual
theorem ltV_mono {n m : Nat} (h : n ≤ m) : ∀ v : AV, ltV n v = true → ltV m v = true
 | .undef, _ => rfl
 | .p _, _ => rfl
 | .own _ _, _ => rfl
 | .agg cs, hv => by unfold ltV at hv ⊢; exact ltL_mono h cs hv
 | .tup cs, hv => by unfold ltV at hv ⊢; exact ltL_mono h cs hv
 | .ap cs, hv => by unfold ltV at hv ⊢; exact ltL_mono h cs hv
 | .fn _ cap, hv => by unfold ltV at hv ⊢; exact ltL_mono h cap hv
 | .asl _ _ rows, hv => by unfold ltV at hv ⊢; exact ltR_mono h rows hv
 | .ms id _ _ _ _, hv => by unfold ltV at hv ⊢; simp only [decide_eq_true_eq] at hv ⊢; omega
 | .ptr id _, hv => by unfold ltV at hv ⊢; simp only [decide_eq_true_eq] at hv ⊢; omega
 | .ep id _ _ _, hv => by unfold ltV at hv ⊢; simp only [decide_eq_true_eq] at hv ⊢; omega
 | .mp id, hv => by unfold ltV at hv ⊢; simp only [decide_eq_true_eq] at hv ⊢; omega
 | .yld id, hv => by unfold ltV at hv ⊢; simp only [decide_eq_true_eq] at hv ⊢; omega
 | .nms id _, hv => by unfold ltV at hv ⊢; simp only [decide_eq_true_eq] at hv ⊢; omega
 | .ifc _ v, hv => by unfold ltV at hv ⊢; exact ltV_mono h v hv
theorem ltL_mono {n m : Nat} (h : n ≤ m) : ∀ vs : List AV, ltL n vs = true → ltL m vs = true
 | [], _ => rfl
 | v :: vs, hv => by
  unfold ltL at hv ⊢
  simp only [Bool.and_eq_true] at hv ⊢
  exact ⟨ltV_mono h v hv.1, ltL_mono h vs hv.2⟩
theorem ltR_mono {n m : Nat} (h : n ≤ m) : ∀ vs : List (List AV), ltR n vs = true → ltR m vs = true
 | [], _ => rfl
 | v :: vs, hv => by
  unfold ltR at hv ⊢
  simp only [Bool.and_eq_true] at hv ⊢
  exact ⟨ltL_mono h v hv.1, ltR_mono h vs hv.2⟩
end
theorem ltL_iff {n : Nat} : ∀ {vs : List AV}, ltL n vs = true ↔ ∀ v ∈ vs, ltV n v = true
 | [] => by simp [ltL]
 | v :: vs => by simp [ltL, ltL_iff (vs := vs)]
theorem ltR_iff {n : Nat} : ∀ {rs : List (List AV)}, ltR n rs = true ↔ ∀ r ∈ rs, ∀ v ∈ r, ltV n v = true
 | [] => by simp [ltR]
 | r :: rs => by simp [ltR, ltR_iff (rs := rs), ltL_iff]
theorem ltV_copyV {n : Nat} {v : AV} (h : ltV n v = true) : ltV n (copyV v) = true := by
 cases v <;> first | exact h | rfl
theorem ltL_pure {n : Nat} (ps : List PV) : ltL n (ps.map AV.p) = true := by rw [ltL_iff]; intro v hv; obtain ⟨p, _, rfl⟩ := List.mem_map.1 hv; rfl
theorem ltL_cellsOf {n : Nat} {v : AV} (h : ltV n v = true) : ltL n (cellsOf v) = true := by
 unfold cellsOf
 split
 ·exact ltL_pure _
 ·unfold ltV at h; exact h
 ·simp [ltL, h]
def ltVis (n : Nat) (env : Env) : Bool := env.all fun p => ltV n (get env p.1)
theorem get_none_key : ∀ {env : Env} {t : Nat}, (∀ p ∈ env, p.1 ≠ t) → get env t = .undef
 | [], _, _ => rfl
 | (k, v) :: r, t, h => by
  unfold get
  rw [if_neg (by simpa using h (k, v) (by simp))]
  exact get_none_key fun p hp => h p (List.mem_cons_of_mem _ hp)
theorem ltVis_iff {n : Nat} {env : Env} : ltVis n env = true ↔ ∀ t, ltV n (get env t) = true := by
 unfold ltVis
 rw [List.all_eq_true]
 constructor
 ·intro h t
  by_cases hk : ∃ p ∈ env, p.1 = t
  ·obtain ⟨p, hp, rfl⟩ := hk
   exact h p hp
  ·rw [get_none_key fun p hp e => hk ⟨p, hp, e⟩]; rfl
 ·intro h p _
  exact h p.1
def lowO (m : Nat) : AObj → Bool
 | .cells cs => ltL m cs
 | .arr _ _ rows => ltR m rows
 | .map _ _ => true
 | .loop _ _ _ _ env _ _ _ => ltVis m env
 | .dead => true
 | .gone => true
 | .hid => true
def Low (m : Nat) (σ : List AObj) : Prop := ∀ (id : Nat) o, id < m → σ[id]? = some o → lowO m o = true
def Grows (b : Nat) (σ σ' : List AObj) : Prop := σ.length ≤ σ'.length ∧ ∀ m, m ≤ b → m ≤ σ.length → Low m σ → Low m σ'
theorem Grows.refl (b : Nat) (σ : List AObj) : Grows b σ σ := ⟨Nat.le_refl _, fun _ _ _ h => h⟩
theorem Grows.trans {b : Nat} {σ σ' σ'' : List AObj} (h : Grows b σ σ') (k : Grows b σ' σ'') : Grows b σ σ'' :=
 ⟨Nat.le_trans h.1 k.1, fun m h1 h2 h3 => k.2 m h1 (Nat.le_trans h2 h.1) (h.2 m h1 h2 h3)⟩
theorem Grows.le {b b' : Nat} {σ σ' : List AObj} (h : Grows b' σ σ') (hb : b ≤ b') : Grows b σ σ' := ⟨h.1, fun m h1 => h.2 m (Nat.le_trans h1 hb)⟩
theorem Grows.new (b : Nat) (σ : List AObj) (o : AObj) : Grows b σ (σ ++ [o]) := by
 refine ⟨by simp, fun m _ h2 h3 id o' hid ho => h3 id o' hid ?_⟩
 rwa [List.getElem?_append_left (by omega)] at ho
theorem Grows.set {b : Nat} {σ : List AObj} {id : Nat} {o : AObj} (h : ∀ m, m ≤ b → id < m → Low m σ → lowO m o = true) : Grows b σ (σ.set id o) := by
 refine ⟨by simp, fun m h1 h2 h3 id' o' hid ho => ?_⟩
 by_cases e : id = id'
 ·subst e
  rw [List.getElem?_set_self (by omega)] at ho
  injection ho with ho; subst ho
  exact h m h1 hid h3
 ·rw [List.getElem?_set_ne e] at ho
  exact h3 id' o' hid ho
theorem Grows.take {b n : Nat} {σ σ' : List AObj} (h : Grows b σ σ') (hn : σ.length ≤ n) : Grows b σ (σ'.take n) := by
 refine ⟨by rw [List.length_take]; have := h.1; omega, fun m h1 h2 h3 id o hid ho => ?_⟩
 rw [List.getElem?_take] at ho
 split at ho
 ·exact h.2 m h1 h2 h3 id o hid ho
 ·cases ho
theorem setCells_mem {cs vs : List AV} {off : Nat} {v : AV} (h : v ∈ setCells cs off vs) : v ∈ cs ∨ v ∈ vs := by
 unfold setCells at h
 rcases List.mem_append.1 h with h | h
 ·rcases List.mem_append.1 h with h | h
  ·exact .inl (List.mem_of_mem_take h)
  ·exact .inr h
 ·exact .inl (List.mem_of_mem_drop h)
theorem readAt_low {m : Nat} {σ : List AObj} {a : AV} {cs : List AV} {off : Nat} (h : readAt σ a = some (cs, off)) (hm : idOf a < m) (hl : Low m σ) : ltL m cs = true := by
 unfold readAt at h
 split at h
 ·split at h
  ·rename_i id o cs0 h0
   injection h with h; injection h with h1 h2; subst h1
   exact hl _ _ hm h0
  ·cases h
 ·split at h
  ·rename_i id g i j g' sz rows h0
   split at h
   ·split at h
    ·rename_i r hr
     injection h with h; injection h with h1 h2; subst h1
     have := hl _ _ hm h0
     unfold lowO at this
     rw [ltL_iff]
     exact ltR_iff.1 this r (List.mem_of_getElem? hr)
    ·cases h
   ·cases h
  ·cases h
 ·cases h
theorem write_grows {b : Nat} {σ : List AObj} {a : AV} {cs vs : List AV} {off : Nat} (hr : readAt σ a = some (cs, off)) (hv : ∀ m, m ≤ b → idOf a < m → ltL m cs = true → ltL m vs = true) : Grows b σ (writeAt σ a (setCells cs off vs)) := by
 have hall : ∀ m, m ≤ b → idOf a < m → Low m σ → ltL m (setCells cs off vs) = true := by
  intro m h1 h2 h3
  have h4 := readAt_low hr h2 h3
  have h5 := hv m h1 h2 h4
  rw [ltL_iff] at h4 h5 ⊢
  intro v hm
  rcases setCells_mem hm with h | h
  ·exact h4 v h
  ·exact h5 v h
 unfold writeAt
 split
 ·rename_i id o
  exact Grows.set fun m h1 h2 h3 => hall m h1 h2 h3
 ·rename_i id g i j
  split
  ·rename_i g' sz rows h0
   refine Grows.set fun m h1 h2 h3 => ?_
   have h4 := hall m h1 h2 h3
   have h5 := h3 id _ h2 h0
   unfold lowO at h5 ⊢
   rw [ltR_iff] at h5 ⊢
   intro r hr' v hv'
   rcases List.mem_or_eq_of_mem_set hr' with h | h
   ·exact h5 r h v hv'
   ·subst h; exact ltL_iff.1 h4 v hv'
  ·exact Grows.refl _ _
 ·exact Grows.refl _ _
theorem append_grows {b : Nat} {σ : List AObj} {nw : Bool} {size bytes : Nat} {s x v : AV} {σ' : List AObj} (h : appendV b σ nw size bytes s x = some (v, σ')) : Grows b σ σ' := by
 unfold appendV at h
 split at h
 ·split at h
  ·split at h
   ·split at h
    ·injection h with h; injection h with h1 h2; subst h2; exact Grows.new _ _ _
    ·cases h
   ·cases h
  ·split at h
   ·injection h with h; injection h with h1 h2; subst h2; exact Grows.refl _ _
   ·cases h
 ·split at h
  ·injection h with h; injection h with h1 h2; subst h2; exact Grows.refl _ _
  ·cases h
 ·split at h
  ·split at h
   ·injection h with h; injection h with h1 h2; subst h2; exact Grows.refl _ _
   ·cases h
  ·cases h
 ·split at h
  ·cases h
  split at h
  ·rename_i g' sz rows sz' ys h0 hys
   split at h
   ·rename_i hc
    injection h with h; injection h with h1 h2; subst h2
    simp only [Bool.and_eq_true, Bool.or_eq_true, decide_eq_true_eq] at hc
    refine Grows.set fun m h1 h2 h3 => ?_
    have h5 := h3 _ _ h2 h0
    unfold lowO at h5 ⊢
    rw [ltR_iff] at h5 ⊢
    intro r hr w hw
    rcases List.mem_append.1 hr with h | h
    ·exact h5 r (List.mem_of_mem_take h) w hw
    ·rcases hc.2 with h' | h'
     ·omega
     ·exact ltV_mono (by omega) w (ltR_iff.1 h' r h w hw)
   ·cases h
  ·cases h
 ·split at h
  ·cases h
  split at h
  ·rename_i sz' ys h0 hys
   split at h
   ·rename_i hc
    injection h with h; injection h with h1 h2; subst h2
    simp only [Bool.and_eq_true, Bool.or_eq_true, decide_eq_true_eq] at hc
    refine Grows.set fun m h1 h2 h3 => ?_
    unfold lowO
    rw [ltR_iff]
    intro r hr w hw
    rcases hc.2 with h' | h'
    ·omega
    ·exact ltV_mono (by omega) w (ltR_iff.1 h' r hr w hw)
   ·cases h
  ·cases h
 ·cases h
def CallGrows (C : CallF) : Prop := ∀ cal args σ o σ', C cal args σ = some (o, σ') → Grows σ.length σ σ'
theorem rmRun_ok {rc : Bool} {C : CallF} {s : S} {d : Option Nat} {f : FuncId} {args : List AV} {r : Rs} (h : rmRun rc C s d f args = some r) :
 ∃ o, ltO o = true ∧ r = endCall s d s.σ o ∧ ((∃ id args' ob, rmId args = some id ∧ rmArgs id args = some args' ∧ s.σ[id]? = some ob ∧ rmOb rc ob = true ∧ C (.fn f) args' [ob] = some (o, [ob])) ∨
  ∃ args' σ1, rmId args = none ∧ rmArgs 0 args = some args' ∧ pureArgs args' = true ∧ C (.fn f) args' [] = some (o, σ1)) := by
 unfold rmRun at h
 split at h
 ·rename_i id hi
  split at h
  ·rename_i args' ha
   split at h
   ·rename_i ob ho
    split at h
    ·rename_i hl
     unfold rmEnd at h
     split at h
     ·rename_i o σ1 hc
      split at h
      ·rename_i hk
       have := rdOk_eq hk.1
       subst this
       injection h with h
       exact ⟨o, hk.2, h.symm, .inl ⟨id, args', ob, hi, ha, ho, hl, hc⟩⟩
      ·cases h
     ·cases h
    ·cases h
   ·cases h
  ·cases h
 ·rename_i hi
  split at h
  ·rename_i args' ha
   split at h
   ·rename_i hq
    unfold rmEnd0 at h
    split at h
    ·rename_i o σ1 hc
     split at h
     ·rename_i hk
      injection h with h
      exact ⟨o, hk, h.symm, .inr ⟨args', σ1, hi, ha, hq, hc⟩⟩
     ·cases h
    ·cases h
   ·cases h
  ·cases h
theorem call_grows {c : Cx} (hC : CallGrows c.C) {s : S} (hb : c.base ≤ s.σ.length) {d : Option Nat} {f : AV} {args : List AV} {s' : S} (h : callV c s d f args = some (.ok s')) : Grows c.base s.σ s'.σ := by
 have fin : ∀ {σ : List AObj} {o : Out}, endCall s d σ o = .ok s' → s'.σ = σ := by
  intro σ o h
  unfold endCall at h
  split at h
  ·injection h with h; subst h; rfl
  ·cases h
 unfold callV at h
 split at h
 ·split at h
  ·split at h
   ·split at h
    ·injection h with h; rw [fin h]; exact Grows.refl _ _
    ·cases h
   ·cases h
  split at h
  ·obtain ⟨o, _, h, _⟩ := rmRun_ok h
   rw [fin h.symm]; exact Grows.refl _ _
  ·split at h
   ·rename_i o σ hc
    split at h
    ·injection h with h; rw [fin h]; exact (hC _ _ _ _ _ hc).le hb
    ·cases h
   ·cases h
 ·split at h
  ·rename_i o σ hc
   injection h with h; rw [fin h]; exact (hC _ _ _ _ _ hc).le hb
  ·cases h
 ·split at h
  ·rename_i o σ hc
   injection h with h; rw [fin h]; exact (hC _ _ _ _ _ hc).le hb
  ·cases h
 ·cases h
theorem call_grows_pan {c : Cx} (hC : CallGrows c.C) {s : S} (hb : c.base ≤ s.σ.length) {d : Option Nat} {f : AV} {args : List AV} {v : PV} {s' : S} (h : callV c s d f args = some (.pan v s')) : Grows c.base s.σ s'.σ := by
 have fin : ∀ {σ : List AObj} {o : Out}, endCall s d σ o = .pan v s' → s'.σ = σ := by
  intro σ o h
  unfold endCall at h
  split at h
  ·cases h
  ·injection h with h1 h; subst h; rfl
 unfold callV at h
 split at h
 ·split at h
  ·split at h
   ·split at h
    ·injection h with h; rw [fin h]; exact Grows.refl _ _
    ·cases h
   ·cases h
  split at h
  ·obtain ⟨o, _, h, _⟩ := rmRun_ok h
   rw [fin h.symm]; exact Grows.refl _ _
  ·split at h
   ·rename_i o σ hc
    split at h
    ·injection h with h; rw [fin h]; exact (hC _ _ _ _ _ hc).le hb
    ·cases h
   ·cases h
 ·split at h
  ·rename_i o σ hc
   injection h with h; rw [fin h]; exact (hC _ _ _ _ _ hc).le hb
  ·cases h
 ·split at h
  ·rename_i o σ hc
   injection h with h; rw [fin h]; exact (hC _ _ _ _ _ hc).le hb
  ·cases h
 ·cases h
theorem putRes_σ {s : S} {d : Option Nat} {v : Option AV} {s' : S} (h : putRes s d v = some (.ok s')) : s'.σ = s.σ := by
 cases v with
 | none => cases h
 | some x => injection h with h; injection h with h; subst h; rfl
theorem mapSet_some {T : Tab} {σ σ' : List AObj} {t : TypeId} {m k : AV} {v : TypeId → AV} (h : mapSet T σ t m k v = some σ') : ∃ kt e key id p kvs, mapTy T t = some (kt, e) ∧ keyOf k = some (kt, key) ∧ m = .mp id ∧ v e = .p p ∧ σ[id]? = some (.map kt kvs) ∧ σ' = σ.set id (.map kt (setKV key p kvs)) := by
 unfold mapSet at h
 split at h
 ·rename_i kt e kk key id h1 h2
  split at h
  ·rename_i hk
   subst hk
   split at h
   ·rename_i p kt' kvs h3 h4
    split at h
    ·rename_i hk
     subst hk
     injection h with h
     exact ⟨_, _, _, _, _, _, h1, h2, rfl, h3, h4, h.symm⟩
    ·cases h
   ·cases h
  ·cases h
 ·cases h
theorem mapSet_grows {b : Nat} {T : Tab} {σ σ' : List AObj} {t : TypeId} {m k : AV} {v : TypeId → AV} (h : mapSet T σ t m k v = some σ') : Grows b σ σ' := by
 obtain ⟨_, _, _, _, _, _, _, _, _, _, _, rfl⟩ := mapSet_some h
 exact Grows.set (fun _ _ _ _ => rfl)
theorem copyS_some {σ σ' : List AObj} {size n : Nat} {x y : AV} (h : copyS σ size x y = some (n, σ')) :
 ∃ id g z off len m rows yc sz' ys, x = .ms id g z off len ∧ lenOf y = some m ∧ σ[id]? = some (.arr g size rows) ∧ cutV (min m len) y = some yc ∧ prowsOf σ yc = some (sz', ys) ∧ off + len ≤ rows.length ∧ (ys.isEmpty || sz' == size) = true ∧ n = ys.length ∧
  σ' = σ.set id (.arr g size (rows.take off ++ ys.map (·.map AV.p) ++ rows.drop (off + ys.length))) := by
 unfold copyS at h
 split at h
 ·rename_i id g z off len m hm
  split at h
  ·rename_i g' sz2 rows yc h0 hc
   split at h
   ·rename_i sz' ys hy
    split at h
    ·rename_i hk
     simp only [Bool.and_eq_true, beq_iff_eq, decide_eq_true_eq] at hk
     obtain ⟨⟨⟨rfl, rfl⟩, h3⟩, h4⟩ := hk
     injection h with h; injection h with h1 h2
     exact ⟨id, g, z, off, len, m, rows, yc, sz', ys, rfl, hm, h0, hc, hy, h3, h4, h1.symm, h2.symm⟩
    ·cases h
   ·cases h
  ·cases h
 ·cases h
theorem copyS_grows {b : Nat} {σ σ' : List AObj} {size n : Nat} {x y : AV} (h : copyS σ size x y = some (n, σ')) : Grows b σ σ' := by
 obtain ⟨id, g, z, off, len, m, rows, yc, sz', ys, rfl, _, h0, _, _, _, _, rfl, rfl⟩ := copyS_some h
 refine Grows.set fun k _ hk hL => ?_
 have h1 := hL id _ hk h0
 have h2 : ltR k rows = true := h1
 show ltR k _ = true
 rw [ltR_iff] at h2 ⊢
 intro r hr v hv
 rcases List.mem_append.1 hr with hr | hr
 ·rcases List.mem_append.1 hr with hr | hr
  ·exact h2 r (List.mem_of_mem_take hr) v hv
  ·obtain ⟨r0, _, rfl⟩ := List.mem_map.1 hr
   obtain ⟨p, _, rfl⟩ := List.mem_map.1 hv
   rfl
 ·exact h2 r (List.mem_of_mem_drop hr) v hv
theorem stepOp0_grows {c : Cx} (hC : CallGrows c.C) {o : Oper} {s : S} (hb : c.base ≤ s.σ.length) {s' : S} (h : stepOp0 c o s = some (.ok s')) : Grows c.base s.σ s'.σ := by
 have same : ∀ {s1 : S}, some (Rs.ok s1) = some (.ok s') → s1.σ = s.σ → Grows c.base s.σ s'.σ := by
  intro s1 h h1
  injection h with h; injection h with h; subst h
  rw [h1]; exact Grows.refl _ _
 have res : ∀ {d : Option Nat} {v : Option AV}, putRes s d v = some (.ok s') → Grows c.base s.σ s'.σ := by
  intro d v h
  rw [putRes_σ h]; exact Grows.refl _ _
 have new : ∀ {s1 : S} {o : AObj}, some (Rs.ok s1) = some (.ok s') → s1.σ = s.σ ++ [o] → Grows c.base s.σ s'.σ := by
  intro s1 o h h1
  injection h with h; injection h with h; subst h
  rw [h1]; exact Grows.new _ _ _
 unfold stepOp0 at h
 split at h
 ·
  split at h
  ·split at h
   ·cases hf : frzV c.base s.σ (rd c.T s.env ‹Operand›) with
    | none => rw [hf] at h; cases h
    | some q =>
     obtain ⟨p, σ1⟩ := q
     rw [hf] at h
     injection h with h; injection h with h; subst h
     unfold frzV at hf
     split at hf
     ·split at hf
      ·split at hf
       ·split at hf
        ·split at hf
         ·injection hf with hf; injection hf with _ hf; subst hf
          exact Grows.set (fun _ _ _ _ => rfl)
         ·cases hf
        ·cases hf
       ·cases hf
      ·cases hf
     ·cases hf
   ·split at h <;> exact same h rfl
  ·cases h
 ·split at h
  ·exact new h rfl
  ·exact same h rfl
 ·split at h
  ·exact same h rfl
  ·cases h
 ·exact res h
 ·split at h
  ·exact same h rfl
  ·exact same h rfl
  ·exact same h rfl
  ·cases h
 ·split at h
  ·split at h
   ·split at h
    ·exact new h rfl
    ·cases h
   split at h
   ·exact new h rfl
   ·injection h with h; injection h with h; subst h
    show Grows _ _ (s.σ ++ [AObj.dead, _])
    rw [show ∀ a b : AObj, s.σ ++ [a, b] = (s.σ ++ [a]) ++ [b] by intro a b; simp]
    exact (Grows.new _ _ _).trans (Grows.new _ _ _)
  ·cases h
 ·split at h
  ·exact new h rfl
  ·cases h
 ·split at h
  ·cases h
  ·split at h
   ·exact same h rfl
   ·cases h
 ·split at h
  ·split at h
   ·split at h
    ·cases h
    ·split at h
     ·split at h
      ·exact new h rfl
      ·exact same h rfl
     ·cases h
   ·cases h
  ·cases h
 ·split at h <;> first | exact same h rfl | cases h
 ·split at h
  ·exact res h
  ·cases h
 ·split at h
  ·split at h
   ·exact res h
   ·cases h
  ·cases h
 ·split at h
  ·split at h
   ·split at h
    ·split at h
     ·exact same h rfl
     ·cases h
    ·cases h
   ·split at h
    ·exact same h rfl
    ·cases h
   ·cases h
  ·cases h
 ·split at h
  ·split at h
   ·split at h
    ·split at h
     ·split at h
      ·exact same h rfl
      ·cases h
     ·cases h
    ·split at h
     ·split at h
      ·split at h
       ·exact same h rfl
       ·cases h
      ·cases h
     ·cases h
    ·cases h
   ·cases h
  ·cases h
 ·
  split at h
  ·rename_i v hv
   split at h
   ·split at h
    ·rename_i hc
     simp only [Bool.and_eq_true, beq_iff_eq] at hc
     split at h
     ·rename_i cs off hr
      injection h with h; injection h with h; subst h
      show Grows c.base s.σ (writeAt _ _ _)
      refine write_grows hr fun m h1 h2 h3 => ?_
      have hvc : cs[off]? = some v := by
       unfold loadV at hv
       split at hv
       ·rename_i e; rw [e] at hr; simp [readAt] at hr
       ·rename_i e; rw [e] at hr; simp [readAt] at hr
       ·rw [hr] at hv
        simp only [pickAgg, hc.2] at hv
        exact hv
      have := ltL_iff.1 h3 v (List.mem_of_getElem? hvc)
      simp [ltL, ltV_copyV this]
     ·exact same h rfl
    ·exact same h rfl
   ·cases h
  ·cases h
 ·
  split at h
  ·rename_i cs off hr
   split at h
   ·rename_i hc
    simp only [Bool.and_eq_true, Bool.or_eq_true, decide_eq_true_eq] at hc
    injection h with h; injection h with h; subst h
    show Grows c.base s.σ (writeAt _ _ _)
    refine write_grows hr fun m h1 h2 h3 => ?_
    rcases hc.2 with h' | h'
    ·omega
    ·exact ltL_cellsOf (ltV_mono (by omega) _ h')
   ·cases h
  ·cases h
 ·
  split at h
  ·split at h
   ·exact res h
   ·cases h
  split at h
  ·cases h
  ·split at h
   ·split at h
    ·exact res h
    ·split at h
     ·split at h
      ·split at h
       ·exact same h rfl
       ·cases h
      ·cases h
     ·cases h
    ·cases h
   ·cases h
 ·split at h <;> first | exact same h rfl | (split at h <;> first | exact same h rfl | cases h) | cases h
 ·split at h
  ·split at h
   ·exact same h rfl
   ·split at h <;> exact same h rfl
  ·cases h
 ·split at h
  ·split at h <;> exact same h rfl
  ·cases h
 ·exact res h
 ·split at h
  ·cases h
  ·split at h <;> exact same h rfl
 ·
  split at h
  ·split at h
   ·split at h
    ·split at h
     ·exact new h rfl
     ·exact same h rfl
    ·cases h
   ·cases h
  ·cases h
 ·split at h <;> cases h
 ·
  split at h
  ·exact new h rfl
  ·cases h
 ·exact res h
 ·
  split at h
  ·rename_i σ1 hm
   injection h with h; injection h with h; subst h
   exact mapSet_grows hm
  ·cases h
 ·
  split at h
  ·exact call_grows (s := { s with env := stripsM c.h s.env _ }) hC hb h
  ·split at h
   ·split at h
    ·split at h
     ·exact same h rfl
     ·cases h
    ·cases h
   ·cases h
  ·split at h
   ·split at h
    ·split at h
     ·split at h
      ·rename_i hap
       injection h with h; injection h with h; subst h
       exact append_grows (append_ap hap)
      ·cases h
     ·cases h
    ·cases h
   ·cases h
  ·split at h
   ·split at h
    ·split at h
     ·split at h
      ·rename_i hcp
       injection h with h; injection h with h; subst h
       exact copyS_grows hcp
      ·cases h
     ·cases h
    ·cases h
   ·cases h
  ·split at h
   ·exact same h rfl
   ·cases h
  ·split at h
   ·exact same h rfl
   ·cases h
  ·cases h
 ·cases h
theorem stepOp0_pan {c : Cx} (hC : CallGrows c.C) {o : Oper} {s : S} (hb : c.base ≤ s.σ.length) {v : PV} {s' : S} (h : stepOp0 c o s = some (.pan v s')) : Grows c.base s.σ s'.σ := by
 have res : ∀ {d : Option Nat} {x : Option AV}, putRes s d x = some (.pan v s') → False := by
  intro d x h
  cases x <;> cases h
 have fr : ∀ {d : Option Nat} {x : Option (PV × List AObj)}, frzR d s x = some (.pan v s') → False := by
  intro d x h
  cases x <;> cases h
 unfold stepOp0 at h
 split at h
 case h_24 =>
  split at h
  ·injection h with h; injection h with h1 h; subst h; exact Grows.refl _ _
  ·cases h
 case h_28 =>
  split at h
  ·exact call_grows_pan (s := { s with env := stripsM c.h s.env _ }) hC hb h
  all_goals (exfalso; repeat' (first | (cases h; done) | split at h))
 all_goals (exfalso; repeat' (first | (cases h; done) | exact res h | exact fr h | split at h))
def Rs.st : Rs → S
 | .ok s => s
 | .pan _ s => s
theorem frC_some {id : Nat} {C : CallF} {cal : Cal} {args : List AV} {σ σ' : List AObj} {o : Out} (h : frC id C cal args σ = some (o, σ')) :
 ∃ cs σ1, σ[id]? = some (.cells cs) ∧ C cal args (σ.set id .hid) = some (o, σ1) ∧ σ1[id]? = some .hid ∧ σ' = σ1.set id (.cells cs) := by
 unfold frC at h
 split at h
 ·rename_i cs hc
  cases h1 : C cal args (σ.set id .hid) with
  | none => rw [h1] at h; cases h
  | some r =>
   obtain ⟨o1, σ1⟩ := r
   rw [h1] at h
   unfold frEnd at h
   dsimp only at h
   split at h
   ·rename_i h2
    injection h with h; injection h with e1 e2
    subst e1
    exact ⟨cs, σ1, hc, rfl, h2, e2.symm⟩
   ·cases h
 ·cases h
theorem frC_grows {id : Nat} {C : CallF} (hC : CallGrows C) : CallGrows (frC id C) := by
 intro cal args σ o σ' h
 obtain ⟨cs, σ1, h0, h1, h2, rfl⟩ := frC_some h
 have hg := hC _ _ _ _ _ h1
 rw [List.length_set] at hg
 refine ⟨by rw [List.length_set]; have := hg.1; rw [List.length_set] at this; exact this, fun m k1 k2 k3 => ?_⟩
 have hl : Low m (σ.set id .hid) := fun i ob hi ho => by
  by_cases e : id = i
  ·subst e
   rw [List.getElem?_set_self (List.getElem?_eq_some_iff.1 h0).1] at ho
   injection ho with ho; subst ho; rfl
  ·rw [List.getElem?_set_ne e] at ho
   exact k3 i ob hi ho
 have h3 := hg.2 m k1 (by rw [List.length_set]; exact k2) hl
 intro i ob hi ho
 by_cases e : id = i
 ·subst e
  rw [List.getElem?_set_self (List.getElem?_eq_some_iff.1 h2).1] at ho
  injection ho with ho; subst ho
  exact k3 id _ hi h0
 ·rw [List.getElem?_set_ne e] at ho
  exact h3 i ob hi ho
theorem frm_grows {c : Cx} (hC : CallGrows c.C) (o : Oper) : CallGrows (c.frm o).C := by
 show CallGrows (frK (frOf c.h o.dst) c.base c.C)
 unfold frK
 split
 ·exact frC_grows hC
 ·exact hC
theorem stepOp_of {c : Cx} {o : Oper} {s : S} {r : Rs} (h : stepOp c o s = some r) : offOk c o s = true ∧ stepOp0 (c.frm o) o s = some r := by
 unfold stepOp at h
 split at h
 ·exact ⟨‹_›, h⟩
 ·cases h
theorem stepOp_grows {c : Cx} (hC : CallGrows c.C) {o : Oper} {s : S} (hb : c.base ≤ s.σ.length) {s' : S} (h : stepOp c o s = some (.ok s')) : Grows c.base s.σ s'.σ := stepOp0_grows (c := c.frm o) (frm_grows hC o) hb (stepOp_of h).2
theorem stepOp_pan {c : Cx} (hC : CallGrows c.C) {o : Oper} {s : S} (hb : c.base ≤ s.σ.length) {v : PV} {s' : S} (h : stepOp c o s = some (.pan v s')) : Grows c.base s.σ s'.σ := stepOp0_pan (c := c.frm o) (frm_grows hC o) hb (stepOp_of h).2
theorem stepOps_grows {c : Cx} (hC : CallGrows c.C) (all : List Oper) : ∀ (ops : List Oper) {s : S} (hb : c.base ≤ s.σ.length) {r : Rs}, stepOps c all ops s = some r → Grows c.base s.σ r.st.σ
 | [], s, hb, r, h => by
  unfold stepOps at h
  injection h with h; subst h
  exact Grows.refl _ _
 | o :: os, s, hb, r, h => by
  have go : ∀ {s1 : S}, s1.σ = s.σ → thenR (stepOps c all os) (stepOp c o s1) = some r → Grows c.base s.σ r.st.σ := by
   intro s1 e h
   cases h1 : stepOp c o s1 with
   | none => rw [h1] at h; cases h
   | some x =>
    rw [h1] at h
    cases x with
    | ok s2 =>
     have g1 := stepOp_grows hC (by rw [e]; exact hb) h1
     rw [e] at g1
     have g2 := stepOps_grows hC all os (Nat.le_trans hb g1.1) h
     exact g1.trans g2
    | pan v s2 =>
     have g1 := stepOp_pan hC (by rw [e]; exact hb) h1
     rw [e] at g1
     injection h with h; subst h
     exact g1
  unfold stepOps at h
  split at h
  ·cases h
  ·exact go (s1 := s) rfl h
  ·split at h
   ·exact go (s1 := s.put _ _) rfl h
   ·exact stepOps_grows hC all os (s := (s.put _ _).put _ _) hb h
theorem roundEnd_some {n : Nat} {live : List Nat} {s s' : S} (h : roundEnd n live s = some s') : ltEnv n (maskEnv s.env live) = true ∧ s' = { s with env := maskEnv s.env live, σ := s.σ.take n } := by
 unfold roundEnd at h
 split at h
 ·rename_i hc; injection h with h; exact ⟨hc, h.symm⟩
 ·cases h
theorem cutX_some {blk : Nat} {outs : Option (List Nat)} {n : Nat} {r : Option (Ex × S)} {e : Ex} {s' : S} (h : cutX blk outs n r = some (e, s')) : ∃ s, r = some (e, s) ∧ (s' = s ∨ ∃ i o, e = .exit i ∧ ltEnv n (maskEnv s.env o) = true ∧ s' = { s with env := maskEnv s.env o, σ := s.σ.take n }) := by
 cases r with
 | none => cases h
 | some x =>
  obtain ⟨e1, s⟩ := x
  cases e1 with
  | exit i =>
   injection h with h; injection h with h1 h2; subst h1; subst h2
   refine ⟨s, rfl, ?_⟩
   unfold cutS
   split
   ·split
    ·split
     ·rename_i o hlt; exact .inr ⟨i, o, rfl, hlt, rfl⟩
     ·exact .inl rfl
    ·exact .inl rfl
   ·exact .inl rfl
  | _ => injection h with h; injection h with h1 h2; subst h1; subst h2; exact ⟨s, rfl, .inl rfl⟩
theorem S.mask_σ (s : S) (l : Option (List Nat)) : (s.mask l).σ = s.σ := by cases l <;> rfl
theorem setSt_some {old : Nat} {σ σ' : List AObj} {id st : Nat} {pend : Option (Option Code)} (h : setSt old σ id st pend = some σ') :
 ∃ p nt f env ps a b, σ[id]? = some (.loop old p nt f env ps a b) ∧ σ' = σ.set id (.loop st (pend.getD p) nt f env ps a b) := by
 unfold setSt at h
 split at h
 ·rename_i st0 p nt f env ps a b h0
  split at h
  ·rename_i e; subst e
   injection h with h
   exact ⟨p, nt, f, env, ps, a, b, h0, h.symm⟩
  ·cases h
 ·cases h
theorem setSt_grows {old : Nat} {σ σ' : List AObj} {id st : Nat} {pend : Option (Option Code)} (h : setSt old σ id st pend = some σ') (b : Nat) : Grows b σ σ' := by
 obtain ⟨p, nt, f, env, ps, a, c, h0, rfl⟩ := setSt_some h
 refine Grows.set fun m _ h2 h3 => ?_
 have h4 : ltVis m env = true := h3 id _ h2 h0
 exact h4
theorem yldRet_some {n : Nat} {b : Bool} {x : Option (List AObj)} {q : Out × List AObj × Bool} (h : yldRet n b x = some q) : ∃ σ, x = some σ ∧ q = (.ret (.p (.lit (.bool b))), σ.take n, false) := by
 cases x with
 | none => cases h
 | some σ => injection h with h; exact ⟨σ, rfl, h.symm⟩
theorem endYield_grows {id n : Nat} {x : Ex × S} {q : Out × List AObj × Bool} (h : endYield id n x = some q) {σ : List AObj} (hn : σ.length ≤ n) {b : Nat} (hg : Grows b σ x.2.σ) : Grows b σ q.2.1 := by
 obtain ⟨e, s⟩ := x
 cases e <;> simp only [endYield] at h
 case normal =>
  obtain ⟨σ1, h1, rfl⟩ := yldRet_some h
  exact (hg.trans (setSt_grows h1 b)).take hn
 case exit i =>
  obtain ⟨σ1, h1, rfl⟩ := yldRet_some h
  exact (hg.trans (setSt_grows h1 b)).take hn
 case ret =>
  obtain ⟨σ1, h1, rfl⟩ := yldRet_some h
  exact (hg.trans (setSt_grows h1 b)).take hn
 case pan v => cases h
theorem rangeEnd_grows {n : Nat} {r : Option Rs} {e : Ex} {s' : S} (h : rangeEnd n r = some (e, s')) : ∃ x : Rs, r = some x ∧ s'.σ = x.st.σ.take n := by
 cases r with
 | none => cases h
 | some x =>
  refine ⟨x, rfl, ?_⟩
  cases x with
  | ok s1 =>
   simp only [rangeEnd] at h
   split at h
   ·split at h
    ·cases h
    ·split at h <;> first | (injection h with h; injection h with _ h; subst h; rfl) | cases h
   ·cases h
  | pan v s1 => cases h
def EvGrows (E : EvT) : Prop := ∀ fi base blk c s e s', base ≤ s.σ.length → E fi base blk c s = some (e, s') → Grows base s.σ s'.σ
theorem finish_grows {T : Tab} {h : FH} {rs : List ResultVar} {s : S} {o : Out} {σ σ' : List AObj} (hg : Grows σ.length σ s.σ) (hf : finish T h σ.length rs s = some (o, σ')) : Grows σ.length σ σ' := by
 unfold finish at hf
 split at hf
 ·split at hf
  ·injection hf with hf; injection hf with _ hf; subst hf
   refine hg.take ?_
   unfold finN
   split
   ·exact hg.1
   ·exact Nat.le_refl _
  ·cases hf
 ·cases hf
theorem guardF_grows {P : Program} {H : FuncId → FH} {E : EvT} (hE : EvGrows E) {g : FuncId} {args : List AV} {σ σ' : List AObj} {pv : Option PV} (h : guardF P H E g args σ pv = some σ') : Grows σ.length σ σ' := by
 unfold guardF at h
 split at h
 ·split at h
  ·split at h
   ·split at h
    ·obtain ⟨r, hr, h⟩ := Option.bind_eq_some_iff.1 h
     obtain ⟨e, s⟩ := r
     have hg : Grows σ.length σ s.σ := hE _ σ.length _ _ _ _ _ (by exact Nat.le_refl _) hr
     cases e <;> simp only [guardEnd] at h
     case normal => injection h with h; subst h; exact hg.take (Nat.le_refl _)
     case ret => injection h with h; subst h; exact hg.take (Nat.le_refl _)
     all_goals cases h
    ·cases h
   ·cases h
  ·cases h
 ·cases h
theorem bodyD_grows {P : Program} {T : Tab} {H : FuncId → FH} {E : EvT} (hE : EvGrows E) {f : FuncId} {rs : List ResultVar} {c : Code} {args : List AV} {σ : List AObj} {q : Out × List AObj × Bool} (h : bodyD P T H E f rs c args σ = some q) : Grows σ.length σ q.2.1 := by
 unfold bodyD at h
 split at h
 ·rename_i a all cl b hsp
  unfold retO at h
  obtain ⟨z, hz, hq⟩ := Option.map_eq_some_iff.1 h
  obtain ⟨r1, h1, hz⟩ := Option.bind_eq_some_iff.1 hz
  obtain ⟨r2, h2, hz⟩ := Option.bind_eq_some_iff.1 hz
  subst hq
  obtain ⟨e1, s1⟩ := r1
  obtain ⟨e2, s2⟩ := r2
  have g1 : Grows σ.length σ s1.σ := hE _ σ.length _ _ _ _ _ (by exact Nat.le_refl _) h1
  cases e1 <;> simp only [preD] at h2
  case normal =>
   have g2 : Grows σ.length σ s2.σ := by
    cases hst : stepOps ⟨T, H, fun _ _ _ => none, H f, σ.length⟩ all all.dropLast s1 with
    | none => rw [hst] at h2; cases h2
    | some r =>
     rw [hst] at h2
     have := stepOps_grows (c := ⟨T, H, fun _ _ _ => none, H f, σ.length⟩) (fun _ _ _ _ _ h => by cases h) all all.dropLast (by exact g1.1) hst
     cases r with
     | ok s3 => simp only [exOf] at h2; injection h2 with h2; injection h2 with _ h2; subst h2; exact g1.trans this
     | pan v s3 => simp only [exOf] at h2; injection h2 with h2; injection h2 with _ h2; subst h2; exact g1.trans this
   cases e2 <;> simp only [deferD] at hz
   case normal =>
    obtain ⟨y, _, hz⟩ := Option.bind_eq_some_iff.1 hz
    obtain ⟨r3, h3, hz⟩ := Option.bind_eq_some_iff.1 hz
    obtain ⟨e3, s3⟩ := r3
    have g3 : Grows σ.length σ s3.σ := g2.trans (hE _ σ.length _ _ _ _ _ (by exact g2.1) h3)
    have fin : ∀ {pv : Option PV}, ((guardF P H E y.1 y.2 s3.σ pv).bind fun σ1 => finish T (H f) σ.length rs { s3 with σ := σ1 }) = some z → Grows σ.length σ z.2 := by
     intro pv hz
     obtain ⟨σ1, h4, hz⟩ := Option.bind_eq_some_iff.1 hz
     have g4 : Grows σ.length σ σ1 := g3.trans ((guardF_grows hE h4).le g3.1)
     obtain ⟨o, σ'⟩ := z
     exact finish_grows (s := { s3 with σ := σ1 }) g4 hz
    cases e3 <;> simp only [endD] at hz
    case exit => cases hz
    all_goals exact fin hz
   all_goals cases hz
  all_goals cases h2
 ·cases h
theorem ev_grows {P : Program} {T : Tab} {H : FuncId → FH} : ∀ k, EvGrows (evC P T H k) ∧ CallGrows (callK P T H k)
 | 0 => ⟨fun _ _ _ _ _ _ _ _ h => (by rw [evC] at h; cases h), fun _ _ _ _ _ h => (by rw [callK] at h; cases h)⟩
 | k + 1 => by
  obtain ⟨ihE, ihC⟩ := ev_grows (P := P) (T := T) (H := H) k
  constructor
  ·intro fi base blk c s e s' hb h
   rw [evC] at h
   have seq : ∀ {E1 : Option (Ex × S)} {K : S → Option (Ex × S)}, thenS K E1 = some (e, s') → (∀ e1 s1, E1 = some (e1, s1) → Grows base s.σ s1.σ) → (∀ s1, Grows base s.σ s1.σ → K s1 = some (e, s') → Grows base s.σ s'.σ) → Grows base s.σ s'.σ := by
    intro E1 K h h1 h2
    cases hE : E1 with
    | none => rw [hE] at h; cases h
    | some x =>
     obtain ⟨e1, s1⟩ := x
     have g1 := h1 e1 s1 hE
     rw [hE] at h
     cases e1 with
     | normal => exact h2 s1 g1 h
     | _ => injection h with h; injection h with h0 h; subst h; exact g1
   unfold evF at h
   split at h
   ·injection h with h; injection h with h0 h; subst h; exact Grows.refl _ _
   ·rename_i id ops d
    cases hs : stepOps ⟨T, H, callK P T H k, H fi, base⟩ ops.toList ops.toList s with
    | none => rw [hs] at h; cases h
    | some r =>
     have g1 := stepOps_grows (c := ⟨T, H, callK P T H k, H fi, base⟩) ihC ops.toList ops.toList hb hs
     rw [hs] at h
     cases r with
     | ok s1 => injection h with h; injection h with h0 h; subst h; exact g1
     | pan v s1 =>
      simp only [exOf] at h
      cases hdr : drOf (H fi) base id d with
      | no => rw [hdr] at h; injection h with h; injection h with h0 h; subst h; exact g1
      | bad => rw [hdr] at h; cases h
      | cut n => rw [hdr] at h; injection h with h; injection h with h0 h; subst h; exact g1.trans (Grows.set fun _ _ _ _ => rfl)
   ·exact seq h (fun e1 s1 h1 => ihE _ _ _ _ _ _ _ hb h1) (fun s1 g1 h2 => g1.trans (ihE _ _ _ _ _ _ _ (Nat.le_trans hb g1.1) h2))
   ·split at h
    ·split at h
     ·exact ihE _ _ _ _ _ _ _ hb h
     ·exact ihE _ _ _ _ _ _ _ hb h
    ·cases h
   ·rename_i id c
    cases hE : evC P T H k fi base id c s with
    | none => rw [hE] at h; cases h
    | some x =>
     obtain ⟨e1, s1⟩ := x
     have g1 := ihE _ _ _ _ _ _ _ hb hE
     rw [hE] at h
     unfold blockEx at h
     split at h
     ·rename_i he
      injection he with he; injection he with he1 he2; subst he2
      split at h <;> (injection h with h; injection h with h0 h; subst h)
      ·rw [S.mask_σ]; exact g1
      ·exact g1
     ·rename_i he
      injection he with he; injection he with he1 he2; subst he2
      injection h with h; injection h with h0 h; subst h
      rw [S.mask_σ]; exact g1
     ·injection h with h; injection h with h0 h; subst h; exact g1
   ·split at h
    ·rename_i live hl
     refine seq h (fun e1 s1 h1 => ?_) (fun s1 g1 h2 => ?_)
     ·obtain ⟨s0, h1, h0⟩ := cutX_some h1
      have := ihE _ _ _ _ _ _ _ (by rw [S.mask_σ]; exact Nat.le_refl _) h1
      rw [S.mask_σ] at this
      have g0 := this.le hb
      rcases h0 with rfl | ⟨_, _, _, _, rfl⟩
      ·exact g0
      ·exact g0.take (Nat.le_refl _)
     ·obtain ⟨s2, hs2, h3⟩ := Option.bind_eq_some_iff.1 h2
      obtain ⟨_, rfl⟩ := roundEnd_some hs2
      have g2 : Grows base s.σ (s1.σ.take s.σ.length) := g1.take (Nat.le_refl _)
      exact g2.trans (ihE _ _ _ _ _ _ _ (Nat.le_trans hb g2.1) h3)
    ·exact seq h (fun e1 s1 h1 => ihE _ _ _ _ _ _ _ hb h1) (fun s1 g1 h2 => g1.trans (ihE _ _ _ _ _ _ _ (Nat.le_trans hb g1.1) h2))
   ·injection h with h; injection h with h0 h; subst h; exact Grows.refl _ _
   ·injection h with h; injection h with h0 h; subst h; exact Grows.refl _ _
   ·exact ihE _ _ _ _ _ _ _ hb h
   ·injection h with h; injection h with h0 h; subst h; exact Grows.refl _ _
   ·rename_i f ps a b
    split at h
    ·cases h
    obtain ⟨x, hx, hσ⟩ := rangeEnd_grows h
    rw [hσ]
    have g0 := Grows.new base s.σ (AObj.loop 0 none (H fi).nt fi (copyEnv s.env) ps.toList a b)
    refine Grows.take (g0.trans ?_) (Nat.le_refl _)
    cases x with
    | ok s1 => exact call_grows (c := ⟨T, H, callK P T H k, H fi, base⟩) ihC (by exact Nat.le_trans hb g0.1) hx
    | pan v s1 => exact call_grows_pan (c := ⟨T, H, callK P T H k, H fi, base⟩) ihC (by exact Nat.le_trans hb g0.1) hx
   ·cases h
  ·intro cal args σ o σ' h
   rw [callK] at h
   obtain ⟨q, hq, hr⟩ := Option.bind_eq_some_iff.1 h
   injection hr with hr; injection hr with h1 h2; subst h2
   cases k with
   | zero => rw [bodyK] at hq; cases hq
   | succ k =>
    obtain ⟨ihE, _⟩ := ev_grows (P := P) (T := T) (H := H) k
    rw [bodyK] at hq
    cases cal with
    | yld id =>
     unfold bodyF at hq
     dsimp only at hq
     split at hq
     ·split at hq
      ·obtain ⟨r, hr1, hr2⟩ := Option.bind_eq_some_iff.1 hq
       have g1 := ihE _ σ.length _ _ _ _ _ (by exact Nat.le_refl _) hr1
       obtain ⟨e, s⟩ := r
       cases e <;> simp only [yldBody] at hr2
       case normal =>
        split at hr2
        ·rename_i σ1 hσ1
         obtain ⟨r, hr3, hr4⟩ := Option.bind_eq_some_iff.1 hr2
         have g2 := g1.trans (setSt_grows hσ1 σ.length)
         have g3 := g2.trans (ihE _ σ.length _ _ _ _ _ (by exact g2.1) hr3)
         exact endYield_grows hr4 (Nat.le_refl _) g3
        ·cases hr2
       all_goals cases hr2
      ·cases hq
     ·cases hq
    | fn f =>
     unfold bodyF at hq
     dsimp only at hq
     split at hq
     ·unfold primO at hq
      split at hq
      ·split at hq
       ·injection hq with hq; subst hq; exact Grows.refl _ _
       ·cases hq
      ·cases hq
     unfold bodyC at hq
     split at hq
     ·split at hq
      ·split at hq
       ·cases hq
       ·split at hq
        ·exact bodyD_grows ihE hq
        obtain ⟨r, hr1, hr2⟩ := Option.bind_eq_some_iff.1 hq
        obtain ⟨p, hp, hp2⟩ := Option.bind_eq_some_iff.1 hr2
        obtain ⟨e, s⟩ := r
        have g1 := ihE _ σ.length _ _ _ _ _ (by exact Nat.le_refl _) hr1
        have hps : p.2 = s := by
         unfold panOf at hp
         split at hp <;> first | (injection hp with hp; subst hp; rename_i he; injection he with _ he) | cases hp
         all_goals (first | rfl | (subst he; rfl))
        have hd : ∀ {pv : Option PV} {s : S} {r : Option PV × S}, dfsK P T H k pv s = some r → r.2.σ = s.σ := by
         intro pv s r h
         cases k with
         | zero => rw [dfsK] at h; cases h
         | succ k =>
          rw [dfsK] at h
          unfold dfsF at h
          split at h
          ·injection h with h; subst h; rfl
          ·cases h
        cases hdk : dfsK P T H k p.1 p.2 with
        | none => rw [hdk] at hp2; cases hp2
        | some z =>
         have hz := hd hdk
         rw [hps] at hz
         rw [hdk] at hp2
         obtain ⟨z1, z2⟩ := z
         simp only at hz
         have gz : Grows σ.length σ z2.σ := by rw [hz]; exact g1
         unfold endBody at hp2
         split at hp2
         ·rename_i he
          injection he with he; injection he with _ he; subst he
          split at hp2
          ·rename_i o σ'' hfin
           injection hp2 with hp2; subst hp2
           unfold finish at hfin
           split at hfin
           ·split at hfin
            ·injection hfin with hfin; injection hfin with _ hfin; subst hfin
             refine gz.take ?_
             unfold finN
             split
             ·exact gz.1
             ·exact Nat.le_refl _
            ·cases hfin
           ·cases hfin
          ·cases hp2
         ·rename_i he
          injection he with he; injection he with _ he; subst he
          injection hp2 with hp2; subst hp2
          exact gz.take (Nat.le_refl _)
         ·cases hp2
      ·cases hq
     ·cases hq
end Go.AM
