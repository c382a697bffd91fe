/- A part of the abstract machine and its simulation. -/
import Derived.Test.YtbalikooghpmlaaDoorAmOps5
set_option linter.unusedVariables false
set_option linter.unusedSimpArgs false
namespace Go.AM
open Go Go.RowKit
section
variable {GL : List (Nat × List PV)} {B0 : Nat} {w0 : World} {g : G} {s : S} {tm : Array Value} {w : World} {ty : List TI} {P : Program} {H : FuncId → FH} {C : CallF} {h : FH} {base : Nat}
theorem TabOk.st (hT : TabOk P ⟨ty, GL⟩) {t : TypeId} {fs : List (Nat × TypeId)} (hd : (Tab.at ⟨ty, GL⟩ t).d = .st fs) : ∃ fields, P.underlying t = some (.struct fields) ∧ fs = fields.toList.map fun f => (f.offset, f.type) := by
 obtain ⟨i, u, hi, hu, _, _, h3, _⟩ := (hT.ty t (by rw [hd]; simp)).out
 rw [hd] at h3
 cases u <;> simp [tdMatch] at h3
 exact ⟨_, hu, h3⟩
theorem TabOk.sl (hT : TabOk P ⟨ty, GL⟩) {t e : TypeId} (hd : (Tab.at ⟨ty, GL⟩ t).d = .sl e) : P.underlying t = some (.slice e) := by
 obtain ⟨i, u, hi, hu, _, _, h3, _⟩ := (hT.ty t (by rw [hd]; simp)).out
 rw [hd] at h3
 cases u <;> simp [tdMatch] at h3
 subst h3; exact hu
theorem TabOk.arr (hT : TabOk P ⟨ty, GL⟩) {t e : TypeId} {n : Nat} (hd : (Tab.at ⟨ty, GL⟩ t).d = .arr n e) : P.underlying t = some (.array n e) := by
 obtain ⟨i, u, hi, hu, _, _, h3, _⟩ := (hT.ty t (by rw [hd]; simp)).out
 rw [hd] at h3
 cases u <;> simp [tdMatch] at h3
 obtain ⟨rfl, rfl⟩ := h3; exact hu
theorem TabOk.int (hT : TabOk P ⟨ty, GL⟩) {t : TypeId} {k : IntKind} (hd : (Tab.at ⟨ty, GL⟩ t).d = .int k) : P.underlying t = some (.int k) := by
 obtain ⟨i, u, hi, hu, _, _, h3, _⟩ := (hT.ty t (by rw [hd]; simp)).out
 rw [hd] at h3
 cases u <;> simp [tdMatch] at h3
 subst h3; exact hu
theorem TabOk.str (hT : TabOk P ⟨ty, GL⟩) {t : TypeId} (hd : (Tab.at ⟨ty, GL⟩ t).d = .str) : P.underlying t = some .string := by
 obtain ⟨i, u, hi, hu, _, _, h3, _⟩ := (hT.ty t (by rw [hd]; simp)).out
 rw [hd] at h3
 cases u <;> simp [tdMatch] at h3
 exact hu
theorem addr_add' {ad : Addr} (hs : ad.spot = none) (n : Nat) : ad.add n = ⟨ad.block, ad.off + n, none⟩ := by
 obtain ⟨b, o, sp⟩ := ad
 simp only at hs; subst hs
 exact addr_add b o n
theorem shift_rel {off : Nat} {a v : AV} {V : Value} (ha : RelA g (fun _ => True) a V) (hv : fieldAddrV off a = some v) (hd : ∀ cs, a ≠ .tup cs) :
 ∃ ad, V = .pointer (some ad) ∧ RelA g (fun _ => False) v (.pointer (some (ad.add off))) := by
 cases a with
 | p pv =>
  cases pv with
  | pp cs =>
   injection hv with hv; subst hv
   unfold RelA RelP at ha
   obtain ⟨ad, e, es, k⟩ := ha
   refine ⟨ad, e, ?_⟩
   unfold RelA RelP
   rw [addr_add' es]
   refine ⟨_, rfl, rfl, RelPC.mk fun i c hc => ?_⟩
   rw [List.getElem?_drop] at hc
   have := k.get (off + i) c hc
   rwa [← Nat.add_assoc] at this
  | _ => cases hv
 | ap cs =>
  injection hv with hv; subst hv
  unfold RelA at ha
  obtain ⟨ad, e, es, k⟩ := ha
  refine ⟨ad, e, ?_⟩
  unfold RelA
  rw [addr_add' es]
  refine ⟨_, rfl, rfl, RelAC.mk fun i c hc => ?_⟩
  rw [List.getElem?_drop] at hc
  have := k.get (off + i) c hc
  rwa [← Nat.add_assoc] at this
 | ptr id o =>
  injection hv with hv; subst hv
  unfold RelA at ha
  obtain ⟨e, he, hae, eV⟩ := ha
  refine ⟨_, eV, ?_⟩
  unfold RelA
  rw [addr_add]
  exact ⟨e, he, hae, rfl⟩
 | ep id gen i j =>
  injection hv with hv; subst hv
  unfold RelA at ha
  obtain ⟨e, he, hae, hg, ad, eV, hx⟩ := ha
  refine ⟨ad, eV, ?_⟩
  unfold RelA
  refine ⟨e, he, hae, hg, _, rfl, fun hge => ?_⟩
  rw [hx hge, addr_add, Nat.add_assoc]
 | _ => cases hv
theorem sizedOk_ok {T : Tab} {t : TypeId} (h : sizedOk T t = true) : (T.at t).d ≠ .other ∧ 0 < (T.at t).size := by
 unfold sizedOk at h
 split at h
 ·rename_i b hb
  exact ⟨TabOk.notOther hb, by simpa using h⟩
 ·cases h
theorem fieldOf_ok (hT : TabOk P ⟨ty, GL⟩) {t : TypeId} {f off : Nat} {ft : TypeId} (hf : fieldOf ⟨ty, GL⟩ t f = some (off, ft)) : ∃ fields fd, P.underlying t = some (.struct fields) ∧ fields[f]? = some fd ∧ fd.offset = off ∧ fd.type = ft := by
 unfold fieldOf at hf
 split at hf
 ·rename_i fs hd
  obtain ⟨fields, hu, rfl⟩ := hT.st hd
  rw [List.getElem?_map] at hf
  obtain ⟨fd, hfd, he⟩ := Option.map_eq_some_iff.1 hf
  injection he with h1 h2
  exact ⟨fields, fd, hu, by simpa using hfd, h1, h2⟩
 ·cases hf
theorem sim_fieldAddr (hT : TabOk P ⟨ty, GL⟩) {o : Oper} {t : TypeId} {x : Operand} {f : Nat} (ho : o.op = .fieldAddr t x f) (hI : Inv GL B0 w0 g s.env s.σ tm w) (hd : ∀ d, o.dst = some d → d < tm.size) {s' : S} (hs : stepOp0 ⟨⟨ty, GL⟩, H, C, h, base⟩ o s = some (.ok s')) :
 SimR GL B0 w0 g w s'.env s'.σ tm o.dst ((execOp (evT tm) o).run P w) := by
 unfold stepOp0 at hs
 rw [ho] at hs
 dsimp only at hs
 split at hs
 ·rename_i off ft hf
  split at hs
  ·rename_i hz
   obtain ⟨hz1, hz2⟩ := sizedOk_ok hz
   obtain ⟨v, hv, rfl⟩ := putRes_ok hs
   obtain ⟨fields, fd, hu, hfd, h1, h2⟩ := fieldOf_ok hT hf
   have hx := hI.rd (ty := ty) x
   have hnt : ∀ cs, rd ⟨ty, GL⟩ s.env x ≠ .tup cs := fun cs e => by rw [e] at hv; cases hv
   obtain ⟨ad, eV, hR⟩ := shift_rel (hx.any hnt) hv hnt
   refine SimR.value hI hd hR ?_
   have hsz := hT.size (t := fd.type) (by rw [h2]; exact hz1) w
   rw [h2] at hsz
   unfold execOp; rw [ho]
   simp only [eV]
   have hz3 : (Tab.at ⟨ty, GL⟩ ft).size ≠ 0 := by omega
   simp [Instr.fieldAt, run_underlying hu, hfd, Instr.sureAddr, fieldPlace, h2, hsz, hz3, h1]
  ·cases hs
 ·cases hs
theorem sim_nilCheck {o : Oper} {x : Operand} (ho : o.op = .nilCheck x) (hI : Inv GL B0 w0 g s.env s.σ tm w) (hd : ∀ d, o.dst = some d → d < tm.size) {s' : S} (hs : stepOp0 ⟨⟨ty, GL⟩, H, C, h, base⟩ o s = some (.ok s')) :
 SimR GL B0 w0 g w s'.env s'.σ tm o.dst ((execOp (evT tm) o).run P w) := by
 unfold stepOp0 at hs
 rw [ho] at hs
 have hx := hI.rd (ty := ty) x
 dsimp only at hs
 have fin : ∀ {v : AV}, rd ⟨ty, GL⟩ s.env x = v → owns v = false → storable v = true → (execOp (evT tm) o).run P w = .ok (.value (evT tm x)) w → s' = s.put o.dst v → SimR GL B0 w0 g w s'.env s'.σ tm o.dst ((execOp (evT tm) o).run P w) := by
  intro v hv h1 h2 hr e
  subst e
  rw [hv] at hx
  exact SimR.value hI hd (hx.free h1 h2) hr
 have ptrRun : ∀ {ad : Addr}, evT tm x = .pointer (some ad) → (execOp (evT tm) o).run P w = .ok (.value (evT tm x)) w := by
  intro ad e; unfold execOp; rw [ho]; simp [e]
 split at hs
 ·rename_i cs hv
  injection hs with hs; injection hs with hs
  have h1 := hx; rw [hv] at h1
  have h2 := h1.pure; unfold RelP at h2
  obtain ⟨ad, e, _⟩ := h2
  exact fin hv rfl rfl (ptrRun e) hs.symm
 ·rename_i id off hv
  injection hs with hs; injection hs with hs
  have h1 := hx; rw [hv] at h1
  have h2 := h1.any (fun _ => by simp); unfold RelA at h2
  obtain ⟨e', _, _, e⟩ := h2
  exact fin hv rfl rfl (ptrRun e) hs.symm
 ·rename_i id gn i j hv
  injection hs with hs; injection hs with hs
  have h1 := hx; rw [hv] at h1
  have h2 := h1.any (fun _ => by simp); unfold RelA at h2
  obtain ⟨e', _, _, _, ad, e, _⟩ := h2
  exact fin hv rfl rfl (ptrRun e) hs.symm
 ·rename_i cs hv
  injection hs with hs; injection hs with hs
  have h1 := hx; rw [hv] at h1
  have h2 := h1.any (fun _ => by simp); unfold RelA at h2
  obtain ⟨ad, e, _⟩ := h2
  exact fin hv rfl rfl (ptrRun e) hs.symm
 ·rename_i f hv
  injection hs with hs; injection hs with hs
  have h1 := hx; rw [hv] at h1
  have h2 := h1.pure; unfold RelP at h2
  exact fin hv rfl rfl (by unfold execOp; rw [ho]; simp [h2]) hs.symm
 ·rename_i f cap hv
  injection hs with hs; injection hs with hs
  have h1 := hx; rw [hv] at h1
  have h2 := h1.any (fun _ => by simp); unfold RelA at h2
  obtain ⟨caps, e, _⟩ := h2
  exact fin hv rfl rfl (by unfold execOp; rw [ho]; simp [e]) hs.symm
 ·rename_i i hv
  injection hs with hs; injection hs with hs
  have h1 := hx; rw [hv] at h1
  have h2 := h1.any (fun _ => by simp); unfold RelA at h2
  obtain ⟨e', _, _, e⟩ := h2
  exact fin hv rfl rfl (by unfold execOp; rw [ho]; simp [e]) hs.symm
 ·cases hs
theorem indexAddr_rel (hT : TabOk P ⟨ty, GL⟩) {t : TypeId} {a v : AV} {i : Int} {k : IntKind} {V : Value} (ha : RelA g (fun _ => True) a V) (hv : indexAddrV ⟨ty, GL⟩ t a i = some v) :
 ∃ U, (Instr.indexAt t V (.int k i)).run P w = .ok U w ∧ RelA g (fun _ => False) v U := by
 unfold indexAddrV at hv
 split at hv
 ·rename_i hi
  split at hv
  ·rename_i e hde
   split at hv
   ·cases hv
   ·rename_i hz
    obtain ⟨hz1, hz2⟩ := sizedOk_ok (by simpa using hz)
    have hu := hT.sl hde
    have hsz := hT.size hz1 w
    have slice : ∀ {ad : Addr} {n cap : Nat}, V = .slice (some ad) n cap → i.toNat < n → (Instr.indexAt t V (.int k i)).run P w = .ok (.pointer (some (ad.add (i.toNat * (Tab.at ⟨ty, GL⟩ e).size)))) w := by
     intro ad n cap eV hn
     have h2 : 0 ≤ i ∧ i < (n : Int) := ⟨hi, by omega⟩
     subst eV
     simp [Instr.indexAt, asIntOf, run_underlying hu, h2, hsz]
    have pureCase : ∀ {ad : Addr} {cap sz : Nat} {rows : List (List PV)} {r : List PV}, V = .slice (some ad) rows.length cap → ad.spot = none → RelPR g.Φ sz rows ad.block ad.off → sz = (Tab.at ⟨ty, GL⟩ e).size → rows[i.toNat]? = some r →
     ∃ U, (Instr.indexAt t V (.int k i)).run P w = .ok U w ∧ RelA g (fun _ => False) (.p (.pp r)) U := by
     intro ad cap sz rows r eV es hk hsz' hr
     refine ⟨_, slice eV (List.getElem?_eq_some_iff.1 hr).1, ?_⟩
     unfold RelA RelP
     rw [addr_add' es]
     refine ⟨_, rfl, rfl, ?_⟩
     have := (hk.get _ _ hr).2
     rwa [hsz'] at this
    split at hv
    ·rename_i nl sz rows
     split at hv
     ·rename_i hse
      split at hv
      ·rename_i r hr
       injection hv with hv; subst hv
       unfold RelA RelP at ha
       obtain ⟨a', cap, eV, hl, hn, _, hs⟩ := ha
       ·obtain ⟨ad, rfl, es, hk⟩ := hs.resolve_left (fun ⟨_, h2⟩ => by have := (List.getElem?_eq_some_iff.1 hr).1; omega)
        exact pureCase eV (es (by have := (List.getElem?_eq_some_iff.1 hr).1; omega)) hk hse hr
      ·cases hv
     ·cases hv
    ·rename_i sz rows
     split at hv
     ·rename_i hse
      split at hv
      ·rename_i r hr
       injection hv with hv; subst hv
       unfold RelA at ha
       obtain ⟨ad, cap, eV, hl, es, hk, _⟩ := ha.resolve_left (fun ⟨_, h2⟩ => by rw [h2] at hr; simp at hr)
       exact pureCase eV (es (by have := (List.getElem?_eq_some_iff.1 hr).1; omega)) hk hse hr
      ·cases hv
     ·cases hv
    ·rename_i ow sz rows
     split at hv
     ·rename_i hse
      split at hv
      ·rename_i r hr
       injection hv with hv; subst hv
       unfold RelA at ha
       obtain ⟨ad, cap, eV, hl, es, hk, _⟩ := ha.resolve_left (fun ⟨_, h2⟩ => by rw [h2] at hr; simp at hr)
       have es := es (by have := (List.getElem?_eq_some_iff.1 hr).1; omega)
       refine ⟨_, slice eV (List.getElem?_eq_some_iff.1 hr).1, ?_⟩
       unfold RelA
       rw [addr_add' es]
       refine ⟨_, rfl, rfl, ?_⟩
       have := (hk.get _ _ hr).2
       rwa [hse] at this
      ·cases hv
     ·cases hv
    ·rename_i id gn sz off len
     split at hv
     ·rename_i hc
      obtain ⟨hsz', hlt⟩ := hc
      injection hv with hv; subst hv
      unfold RelA at ha
      obtain ⟨m, hm, hma, hg, hms, ad, cap, eV, hl, hx, hsp⟩ := ha
      refine ⟨_, slice eV hlt, ?_⟩
      unfold RelA
      refine ⟨m, hm, hma, hg, _, rfl, fun hge => ?_⟩
      obtain ⟨had, _⟩ := hx hge (by omega)
      rw [had, addr_add, ← hsz', hms hge, Nat.add_mul]
      rfl
     ·cases hv
    ·cases hv
  ·rename_i n e hde
   split at hv
   ·rename_i hz
    obtain ⟨hlt, hz0⟩ := hz
    obtain ⟨hz1, hz2⟩ := sizedOk_ok hz0
    have hu := hT.arr hde
    have hsz := hT.size hz1 w
    have hnt : ∀ cs, a ≠ .tup cs := fun cs e => by subst e; cases hv
    have hv' : fieldAddrV (i.toNat * (Tab.at ⟨ty, GL⟩ e).size) a = some v := by
     cases a with
     | p pv => cases pv <;> first | exact hv | cases hv
     | _ => first | exact hv | cases hv
    obtain ⟨ad, eV, hR⟩ := shift_rel ha hv' hnt
    refine ⟨_, ?_, hR⟩
    have h2 : 0 ≤ i ∧ i < (n : Int) := ⟨hi, by omega⟩
    subst eV
    simp [Instr.indexAt, asIntOf, run_underlying hu, Instr.sureAddr, h2, hsz]
   ·cases hv
  ·cases hv
 ·cases hv
end
end Go.AM
