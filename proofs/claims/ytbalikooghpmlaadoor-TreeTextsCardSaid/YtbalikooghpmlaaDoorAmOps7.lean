/- A part of the abstract machine and its simulation. -/
import Derived.Test.YtbalikooghpmlaaDoorAmOps6
import Derived.Laws.BytesString
set_option linter.unusedVariables false
set_option linter.unusedSimpArgs false
namespace Go.AM
open Go Go.RowKit
section
variable {GL : List (Nat × List PV)} {B0 : Nat} {w0 : World} {g : G} {s : S} {tm : Array Value} {w : World} {ty : List TI} {P : Program} {H : FuncId → FH} {C : CallF} {h : FH} {base : Nat}
theorem sim_indexAddr (hT : TabOk P ⟨ty, GL⟩) {o : Oper} {t : TypeId} {x y : Operand} (ho : o.op = .indexAddr t x y) (hI : Inv GL B0 w0 g s.env s.σ tm w) (hd : ∀ d, o.dst = some d → d < tm.size) {s' : S} (hs : stepOp0 ⟨⟨ty, GL⟩, H, C, h, base⟩ o s = some (.ok s')) :
 SimR GL B0 w0 g w s'.env s'.σ tm o.dst ((execOp (evT tm) o).run P w) := by
 unfold stepOp0 at hs
 rw [ho] at hs
 dsimp only at hs
 split at hs
 ·rename_i k i hi
  obtain ⟨v, hv, rfl⟩ := putRes_ok hs
  have hnt : ∀ cs, rd ⟨ty, GL⟩ s.env x ≠ .tup cs := fun cs e => by
   rw [e] at hv; unfold indexAddrV at hv
   split at hv
   ·split at hv
    ·split at hv <;> cases hv
    ·split at hv <;> cases hv
    ·cases hv
   ·cases hv
  obtain ⟨U, hU, hR⟩ := indexAddr_rel (P := P) (w := w) (k := k) hT ((hI.rd x).any hnt) hv
  refine SimR.value hI hd hR ?_
  unfold execOp; rw [ho]
  simp [hI.lit hi, hU]
 ·cases hs
theorem RelP1.pick (hT : TabOk P ⟨ty, GL⟩) {t : TypeId} {cs : List PV} {Vs : List Value} {off : Nat} (hr : RelP1 g.Φ cs Vs) {v : PV} (hv : pickPure ⟨ty, GL⟩ t (cs.drop off) = some v) (ho : off ≤ cs.length) :
 ∃ U, (part t Vs.toArray off).run P w = .ok U w ∧ RelP g.Φ v U := by
 obtain ⟨l, f⟩ := hr.get
 unfold pickPure at hv
 unfold part
 split at hv
 ·rename_i ha
  split at hv
  ·rename_i hl
   injection hv with hv; subst hv
   refine ⟨.agg (Vs.toArray.extract off (off + (Tab.at ⟨ty, GL⟩ t).size)), by simp only [Sem.run_bind, hT.isAgg ha, Result.andThen_ok, if_true, hT.size (TabOk.notOther ha), Sem.run_pure], ?_⟩
   unfold RelP
   refine ⟨(Vs.drop off).take (Tab.at ⟨ty, GL⟩ t).size, by simp [List.take_drop], ?_⟩
   rw [List.length_drop] at hl
   refine RelP1.mk (by simp; omega) fun i c hc => ?_
   rw [List.getElem?_take] at hc ⊢
   split at hc
   ·rename_i hi
    rw [if_pos hi]
    rw [List.getElem?_drop] at hc ⊢
    exact f _ c hc
   ·cases hc
  ·cases hv
 ·rename_i ha
  rw [List.getElem?_drop] at hv
  obtain ⟨u, hu, o1, r⟩ := f _ v hv
  rw [Nat.add_zero] at hu
  refine ⟨u, ?_, r⟩
  have : Vs.toArray[off]? = some u := by simpa using hu
  simp only [Sem.run_bind, hT.isAgg ha, Result.andThen_ok]
  simp [this]
 ·cases hv
theorem RelA1.pick (hT : TabOk P ⟨ty, GL⟩) {t : TypeId} {cs : List AV} {Vs : List Value} {off : Nat} (hr : RelA1 g cs Vs) {v : AV} (hv : pickAgg ⟨ty, GL⟩ t cs off = some v) :
 ∃ U, (part t Vs.toArray off).run P w = .ok U w ∧ RelA g (fun _ => False) v U := by
 obtain ⟨l, f⟩ := hr.get
 unfold pickAgg at hv
 unfold part
 split at hv
 ·rename_i ha
  split at hv
  ·rename_i hl
   injection hv with hv; subst hv
   refine ⟨.agg (Vs.toArray.extract off (off + (Tab.at ⟨ty, GL⟩ t).size)), by simp only [Sem.run_bind, hT.isAgg ha, Result.andThen_ok, if_true, hT.size (TabOk.notOther ha), Sem.run_pure], ?_⟩
   have e : (Vs.toArray.extract off (off + (Tab.at ⟨ty, GL⟩ t).size)) = ((Vs.drop off).take (Tab.at ⟨ty, GL⟩ t).size).toArray := by simp [List.take_drop]
   rw [e]
   refine mkAgg_rel (RelA1.mk (by simp; omega) fun i c hc => ?_)
   rw [List.getElem?_take] at hc ⊢
   split at hc
   ·rename_i hi
    rw [if_pos hi]
    rw [List.getElem?_drop] at hc ⊢
    exact f _ c hc
   ·cases hc
  ·cases hv
 ·rename_i ha
  obtain ⟨u, hu, o1, r⟩ := f _ v hv
  refine ⟨u, ?_, r⟩
  have : Vs.toArray[off]? = some u := by simpa using hu
  simp only [Sem.run_bind, hT.isAgg ha, Result.andThen_ok]
  simp [this]
 ·cases hv
theorem pickPure_le {T : Tab} {t : TypeId} {cs : List PV} {off : Nat} {v : PV} (hv : pickPure T t (cs.drop off) = some v) (hz : 0 < (T.at t).size ∨ (T.at t).d.agg? = some false) : off ≤ cs.length := by
 unfold pickPure at hv
 split at hv
 ·rename_i ha
  split at hv
  ·rename_i hl
   rw [List.length_drop] at hl
   rcases hz with h | h
   ·omega
   ·rw [ha] at h; cases h
  ·cases hv
 ·rw [List.getElem?_drop] at hv
  have := (List.getElem?_eq_some_iff.1 hv).1
  omega
 ·cases hv
theorem sim_field (hT : TabOk P ⟨ty, GL⟩) {o : Oper} {t : TypeId} {x : Operand} {f : Nat} (ho : o.op = .field t x f) (hI : Inv GL B0 w0 g s.env s.σ tm w) (hd : ∀ d, o.dst = some d → d < tm.size) {s' : S} (hs : stepOp0 ⟨⟨ty, GL⟩, H, C, h, base⟩ o s = some (.ok s')) :
 SimR GL B0 w0 g w s'.env s'.σ tm o.dst ((execOp (evT tm) o).run P w) := by
 unfold stepOp0 at hs
 rw [ho] at hs
 dsimp only at hs
 split at hs
 ·rename_i off ft hf
  obtain ⟨fields, fd, hu, hfd, h1, h2⟩ := fieldOf_ok hT hf
  have hx := hI.rd (ty := ty) x
  have run : ∀ {Vs : List Value} {U : Value}, evT tm x = .agg Vs.toArray → (part ft Vs.toArray off).run P w = .ok U w → (execOp (evT tm) o).run P w = .ok (.value U) w := by
   intro Vs U e hp
   unfold execOp; rw [ho]
   simp [e, Instr.field, run_underlying hu, hfd, asAgg, h1, h2, hp]
  split at hs
  ·rename_i cs hv
   rw [hv] at hx
   have hp := hx.pure
   unfold RelP at hp
   obtain ⟨Vs, e, hr⟩ := hp
   split at hs
   ·rename_i hle
    split at hs
    ·rename_i v hv
     injection hs with hs; injection hs with hs; subst hs
     obtain ⟨U, hU, hR⟩ := hr.pick (w := w) hT hv hle
     exact SimR.value hI hd (RelA.of_p hR) (run e hU)
    ·cases hs
   ·cases hs
  ·rename_i cs hv
   rw [hv] at hx
   have hp := hx.any (fun _ => by simp)
   unfold RelA at hp
   obtain ⟨Vs, e, hr⟩ := hp
   split at hs
   ·rename_i v hv
    injection hs with hs; injection hs with hs; subst hs
    obtain ⟨U, hU, hR⟩ := hr.pick (w := w) hT hv
    exact SimR.value hI hd hR (run e hU)
   ·cases hs
  ·cases hs
 ·cases hs
theorem sim_index (hT : TabOk P ⟨ty, GL⟩) {o : Oper} {t : TypeId} {x y : Operand} (ho : o.op = .index t x y) (hI : Inv GL B0 w0 g s.env s.σ tm w) (hd : ∀ d, o.dst = some d → d < tm.size) {s' : S} (hs : stepOp0 ⟨⟨ty, GL⟩, H, C, h, base⟩ o s = some (.ok s')) :
 SimR GL B0 w0 g w s'.env s'.σ tm o.dst ((execOp (evT tm) o).run P w) := by
 unfold stepOp0 at hs
 rw [ho] at hs
 dsimp only at hs
 split at hs
 ·rename_i k i hi
  split at hs
  ·rename_i h0
   split at hs
   ·rename_i b hb
    split at hs
    ·rename_i hstr
     split at hs
     ·rename_i u hu
      injection hs with hs; injection hs with hs; subst hs
      refine SimR.value hI hd (RelA.lit rfl) ?_
      unfold execOp; rw [ho]
      simp [hI.lit hi, hI.lit hb, Instr.index, asIntOf, run_underlying (hT.str hstr), h0, hu]
     ·cases hs
    ·cases hs
   ·rename_i cs hv
    split at hs
    ·rename_i n e hde
     split at hs
     ·rename_i hc
      obtain ⟨hlt, hz⟩ := hc
      obtain ⟨hz1, hz2⟩ := sizedOk_ok hz
      split at hs
      ·rename_i v hp
       injection hs with hs; injection hs with hs; subst hs
       have hx := hI.rd (ty := ty) x
       rw [hv] at hx
       have hr := hx.pure
       unfold RelP at hr
       obtain ⟨Vs, e', hr⟩ := hr
       obtain ⟨U, hU, hR⟩ := hr.pick (w := w) hT hp (pickPure_le hp (.inl hz2))
       refine SimR.value hI hd (RelA.of_p hR) ?_
       have h2 : 0 ≤ i ∧ i < (n : Int) := ⟨h0, by omega⟩
       unfold execOp; rw [ho]
       simp [hI.lit hi, e', Instr.index, asIntOf, run_underlying (hT.arr hde), h2, hT.size hz1, hU]
      ·cases hs
     ·cases hs
    ·cases hs
   ·cases hs
  ·cases hs
 ·cases hs
theorem bytesR_get : ∀ {rows : List (List PV)} {ns : List Int}, bytesR rows = some ns → ns.length = rows.length ∧ ∀ (i : Nat) n, ns[i]? = some n → rows[i]? = some [.lit (.int .u8 n)]
 | [], ns, h => by
  injection h with h; subst h
  exact ⟨rfl, fun i n hn => by simp at hn⟩
 | r :: rs, ns, h => by
  unfold bytesR at h
  split at h
  ·rename_i n ns' hr
   injection h with h; subst h
   obtain ⟨h1, h2⟩ := bytesR_get hr
   refine ⟨by simp [h1], fun i m hm => ?_⟩
   cases i with
   | zero => simp at hm; subst hm; rfl
   | succ i => simp at hm ⊢; exact h2 i m hm
  ·cases h
theorem strOf_foldl (ns : List Int) : ∀ (b : ByteArray), (ns.foldl (fun r n => r.push (UInt8.ofNat n.toNat)) b) = ⟨b.data ++ (ns.map fun n => UInt8.ofNat n.toNat).toArray⟩ := by
 induction ns with
 | nil => intro b; simp
 | cons n ns ih =>
  intro b
  rw [List.foldl_cons, ih]
  show ByteArray.mk ((b.data.push (UInt8.ofNat n.toNat)) ++ _) = _
  congr 1
  simp [← Array.toList_inj]
theorem run_bytes (hT : TabOk P ⟨ty, GL⟩) (hI : Inv GL B0 w0 g s.env s.σ tm w) {t e t' : TypeId} (h1 : (Tab.at ⟨ty, GL⟩ t).d = .sl e) (h2 : (Tab.at ⟨ty, GL⟩ e).d = .int .u8) (h3 : (Tab.at ⟨ty, GL⟩ t').d = .str) {V : Value} {rows : List (List PV)} {ns : List Int} (hb : bytesR rows = some ns)
 (hV : ∃ a cap, V = .slice a rows.length cap ∧ rows.length ≤ cap ∧ ((a = none ∧ cap = 0) ∨ ∃ ad, a = some ad ∧ (0 < cap → ad.spot = none) ∧ RelPR g.Φ 1 rows ad.block ad.off)) : (convert t t' V).run P w = .ok (.string (strOf ns)) w := by
 obtain ⟨a, cap, rfl, hl, ha⟩ := hV
 obtain ⟨b1, b2⟩ := bytesR_get hb
 rw [run_convert_bytes_string w t t' e a _ cap (hT.sl h1) (hT.int h2) (hT.str h3)]
 rcases ha with ⟨rfl, rfl⟩ | ⟨ad, rfl, hs, hr⟩
 ·have : rows = [] := List.length_eq_zero_iff.1 (by omega)
  subst this
  injection hb with hb; subst hb
  simp [Conv.bytesToString, strOf]
  rfl
 ·have hl0 : (loadCells ad rows.length).run P w = .ok (ns.map (Value.int .u8)).toArray w := by
   have := run_loadCells_list (P := P) w ad (ns.map (Value.int .u8)) (fun j v hj => by
    rw [List.getElem?_map] at hj
    obtain ⟨n, hn, rfl⟩ := Option.map_eq_some_iff.1 hj
    have hrow := b2 j n hn
    have hlt := (List.getElem?_eq_some_iff.1 hrow).1
    obtain ⟨_, hc⟩ := hr.get j _ hrow
    obtain ⟨u, hu, _, r⟩ := hc.get 0 _ rfl
    unfold RelP at r
    rw [addr_add' (hs (by omega)) j]
    have := hI.fz _ _ _ hu
    rw [r.1] at this
    simpa using this)
   rw [List.length_map, b1] at this
   exact this
  rw [run_bytesToString w ad _ cap ns hl0, strOf_foldl]
  congr 2
  unfold strOf
  congr 1
  simp
theorem sim_convert (hT : TabOk P ⟨ty, GL⟩) {o : Oper} {t t' : TypeId} {x : Operand} (ho : o.op = .convert t t' x) (hI : Inv GL B0 w0 g s.env s.σ tm w) (hd : ∀ d, o.dst = some d → d < tm.size) {s' : S} (hs : stepOp0 ⟨⟨ty, GL⟩, H, C, h, base⟩ o s = some (.ok s')) :
 SimR GL B0 w0 g w s'.env s'.σ tm o.dst ((execOp (evT tm) o).run P w) := by
 unfold stepOp0 at hs
 rw [ho] at hs
 dsimp only at hs
 split at hs
 ·rename_i ks k k' n h1 h2 h3
  injection hs with hs; injection hs with hs; subst hs
  refine SimR.value hI hd (RelA.lit rfl) ?_
  unfold execOp; rw [ho]
  simp [hI.lit h3, Go.convert, run_underlying (hT.int h1), run_underlying (hT.int h2), Conv.intToInt]
 ·rename_i b h1 h2 h3
  injection hs with hs; injection hs with hs; subst hs
  refine SimR.value hI hd (RelA.lit rfl) ?_
  unfold execOp; rw [ho]
  simp [hI.lit h3, Go.convert, run_underlying (hT.str h1), run_underlying (hT.str h2)]
 ·rename_i e v h1 h2
  split at hs
  ·rename_i ns h3 h4
   injection hs with hs; injection hs with hs; subst hs
   refine SimR.value hI hd (RelA.lit rfl) ?_
   have hx := hI.rd (ty := ty) x
   generalize rd ⟨ty, GL⟩ s.env x = v at *
   have hrun : (convert t t' (evT tm x)).run P w = .ok (.string (strOf ns)) w := by
    unfold bytesV at h4
    split at h4
    ·rename_i nl sz rows
     split at h4
     ·rename_i hsz
      subst hsz
      have hp := hx.pure
      unfold RelP at hp
      obtain ⟨a, cap, e1, hl, _, _, ha⟩ := hp
      exact run_bytes hT hI h1 h3 h2 h4 ⟨a, cap, e1, hl, ha⟩
     ·cases h4
    ·rename_i sz rows
     split at h4
     ·rename_i hsz
      subst hsz
      have hp := hx.any (fun _ => by simp)
      unfold RelA at hp
      rcases hp with ⟨e1, e2⟩ | ⟨ad, cap, e1, hl, hs, hr, _⟩
      ·exact run_bytes hT hI h1 h3 h2 h4 ⟨none, 0, by rw [e1, e2]; rfl, by rw [e2]; exact Nat.le_refl _, .inl ⟨rfl, rfl⟩⟩
      ·exact run_bytes hT hI h1 h3 h2 h4 ⟨some ad, cap, e1, hl, .inr ⟨ad, rfl, hs, hr⟩⟩
     ·cases h4
    ·cases h4
   unfold execOp; rw [ho]
   simp [hrun]
  ·cases hs
 ·cases hs
end
end Go.AM
