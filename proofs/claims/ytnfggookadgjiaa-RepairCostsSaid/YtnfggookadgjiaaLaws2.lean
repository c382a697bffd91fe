/- What the functions of this seat compute on the abstract machine, function by function, and the plain laws. -/
import Derived.Test.YtnfggookadgjiaaLaws
import Derived.Test.YtnfggookadgjiaaAmSg
import Derived.KernelRfl
import Derived.Test.YtnfggookadgjiaaAmEntry
import Derived.Test.YtnfggookadgjiaaAmVal
set_option linter.unusedVariables false
set_option linter.unusedSimpArgs false
namespace Go.AM.S22
open Go Go.Proofs Go.AM
set_option maxRecDepth 100000
set_option linter.unusedVariables false
set_option maxHeartbeats 4000000
def pv_Tree (x:Tree):PV:=.agg [iv x.Sym,.sl none 2 (List.map row_Tree x.Kids)]
def tree_Copy:Nat→Tree→Option Tree
 | 0,_=>none
 | n + 1,a0 =>
  rangeL a0.Kids ([]:List Tree) (fun k1 i1 x1 (s1:(List Tree)) n1 =>
   (tree_Copy n x1).bind fun v1 =>
   (app 32 s1 [v1]).bind fun v2 =>
   n1 v2) fun s1 =>
  some (Tree.mk a0.Sym s1)
theorem spec105:∀ (n:Nat),(∀ (a0:Tree) (r:Tree),tree_Copy n a0 = some r →
 call Try.prog T H (.fn 105) [.p (.agg [iv a0.Sym,.sl none 2 (List.map row_Tree a0.Kids)])] [] = some (.ret (.p (.agg [iv r.Sym,.sl none 2 (List.map row_Tree r.Kids)])),[])):=by
 intro n
 induction n with
 | zero=>intro a0 r h; cases h
 | succ n ih =>
  intro a0 r h
  refine Sat.fn fun Q hQ=>?_
  rw [tree_Copy] at h
  rw [call105]
  conv=>arg 1; arg 7; unfold S22.c105 Try.f105; simp only [Option.getD_some]
  simp only [go_sem]
  refine run_rangeL (c:=L105_0) (live:=[2,3,10,11,12]) (by simp only [go_sem]) (M:=fun i1 (s1:(List Tree))=>[(2,.ptr 1 0),(3,.ptr 2 0),(10,.p (.sl none 2 (List.map row_Tree a0.Kids))),(11,.p (iv (a0.Kids.length:Int))),(12,.p (iv (i1:Int)))]) (Z:=fun i1 (s1:(List Tree))=>[.cells [.p (iv a0.Sym),.p (.sl none 2 (List.map row_Tree a0.Kids))],.cells [.p (iv 0),.own 2 []],.cells [.p (iv a0.Sym),.own 2 (List.map row_Tree s1)]]) (N:=fun (s1:(List Tree))=>⟨[(2,.ptr 1 0),(3,.ptr 2 0)],[.cells [.p (iv a0.Sym),.p (.sl none 2 (List.map row_Tree a0.Kids))],.cells [.p (iv 0),.own 2 []],.cells [.p (iv a0.Sym),.own 2 (List.map row_Tree s1)]],[],none,false⟩) h rfl rfl (fun _ _=>rfl) ?_ ?_ ?_
  ·intro s1 h
   try dsimp only at h ⊢
   simp only [go_sem]
   injection h with h; subst h
   exact Sat.ok hQ
  ·intro K1 s1 hb1 he1
   try dsimp only
   conv=>arg 1; arg 7; unfold L105_0 loopAt S22.c105 Try.f105; simp only [loopIn,Option.getD_some,if_true]
   simp only [go_sem,he1]
   exact hb1
  ·intro K1 k1 i1 x1 s1 n1 hR1 hE1 hb1 hx1 hi1 hw1 ih1 h
   try dsimp only at h ⊢
   conv=>arg 1; arg 7; unfold L105_0 loopAt S22.c105 Try.f105; simp only [loopIn,Option.getD_some,if_true]
   obtain ⟨v1,e_v1,h⟩:=ob h
   have e_v1c:=ih x1 v1 e_v1
   obtain ⟨v2,e_v2,h⟩:=ob h
   have e_v2a:boundOk (s1.length + 1) 32 = true:=bnd_of (by have:=(app_some e_v2).1; simpa using this) (by decide)
   have e_v2b:(List.map row_Tree s1) ++ [[iv v1.Sym,.sl none 2 (List.map row_Tree v1.Kids)]] = List.map row_Tree v2:=by rw [(app_some e_v2).2]; simp [row_Tree_eq]
   simp only [go_sem,hx1,hi1,hw1,e_v1c,e_v2a,e_v2b,hR1,hE1]
   exact ih1 v2 h
def empty_least_1_xesfcdo:Nat→Int→Automaton→(List (Int×Tree))→(List (List Int))→Nat→Option (Tree×(List (Int×Tree)))
 | 0,_,_,_,_,_=>none
 | n + 1,a0,a3,a5,a6,l6 =>
  if ((mget a0 a5).isSome) = true then
   some (((mget a0 a5).getD (Tree.mk 0 ([]:List Tree))),a5)
  else
   (idxM l6 a6 a0).bind fun v1 =>
   rangeL v1 (a5,0,([]:List Tree)) (fun k3 i3 x3 (s3:(List (Int×Tree))×Int×(List Tree)) n3 =>
    (idx a3.Rules x3).bind fun v2 =>
    rangeL v2.From (s3.1,([]:List Tree)) (fun k4 i4 x4 (s4:(List (Int×Tree))×(List Tree)) n4 =>
     (empty_least_1_xesfcdo n x4 a3 s4.1 a6 l6).bind fun v4 =>
     (app 32 s4.2 [v4.1]).bind fun v5 =>
     n4 (v4.2,v5)) fun s4 =>
    if (i3:Int) = 0 then
     n3 (s4.1,v2.Sym,s4.2)
    else
     (tree_Compare n (Tree.mk v2.Sym s4.2) (Tree.mk s3.2.1 s3.2.2)).bind fun v3 =>
     if v3 < 0 then
      n3 (s4.1,v2.Sym,s4.2)
     else
      n3 (s4.1,s3.2.1,s3.2.2)) fun s3 =>
   some ((Tree.mk s3.2.1 s3.2.2),(mput a0 (Tree.mk s3.2.1 s3.2.2) s3.1))
theorem spec106_xesfcdo:∀ (n:Nat),(∀ (σ:List AObj) (p1:Nat) (hp1:p1 < σ.length) (p2:Nat) (hp2:p2 < σ.length) (p3:Nat) (hp3:p3 < σ.length) (p4:Nat) (hp4:p4 < σ.length) (p5:Nat) (hp5:p5 < σ.length) (p6:Nat) (g6:Nat) (hp6:p6 < σ.length) (hne1_2:p1≠p2) (hne1_3:p1≠p3) (hne1_4:p1≠p4) (hne1_5:p1≠p5) (hne1_6:p1≠p6) (hne2_1:p2≠p1) (hne2_3:p2≠p3) (hne2_4:p2≠p4) (hne2_5:p2≠p5) (hne2_6:p2≠p6) (hne3_1:p3≠p1) (hne3_2:p3≠p2) (hne3_4:p3≠p4) (hne3_5:p3≠p5) (hne3_6:p3≠p6) (hne4_1:p4≠p1) (hne4_2:p4≠p2) (hne4_3:p4≠p3) (hne4_5:p4≠p5) (hne4_6:p4≠p6) (hne5_1:p5≠p1) (hne5_2:p5≠p2) (hne5_3:p5≠p3) (hne5_4:p5≠p4) (hne5_6:p5≠p6) (hne6_1:p6≠p1) (hne6_2:p6≠p2) (hne6_3:p6≠p3) (hne6_4:p6≠p4) (hne6_5:p6≠p5) (a0:Int) (a3:Automaton) (a5:List (Int×Tree)) (a6:List (List Int)) (l6:Nat) (r:Tree×(List (Int×Tree))),empty_least_1_xesfcdo n a0 a3 a5 a6 l6 = some r →
 call Try.prog T H (.fn 106) [.p (iv a0),.ptr p1 0,.ptr p2 0,.ptr p3 0,.ptr p4 0] (List.set (List.set (List.set (List.set (List.set (List.set σ p1 (.cells [.mp p5])) p2 (.cells [.ms p6 g6 1 0 l6])) p3 (.cells [.p (iv a3.States),.p (.sl none 1 (List.map rowI a3.Final)),.p (.sl none 3 (List.map row_Rule a3.Rules))])) p4 (.cells [.fn 106 [.ptr p1 0,.ptr p2 0,.ptr p3 0,.ptr p4 0]])) p5 (.map (some .i64) (List.map (kvE kI pv_Tree) a5))) p6 (.arr g6 1 (List.map (rowO 1 rowI) a6))) = some (.ret (.p (.agg [iv r.1.Sym,.sl none 2 (List.map row_Tree r.1.Kids)])),(List.set (List.set (List.set (List.set (List.set (List.set σ p1 (.cells [.mp p5])) p2 (.cells [.ms p6 g6 1 0 l6])) p3 (.cells [.p (iv a3.States),.p (.sl none 1 (List.map rowI a3.Final)),.p (.sl none 3 (List.map row_Rule a3.Rules))])) p4 (.cells [.fn 106 [.ptr p1 0,.ptr p2 0,.ptr p3 0,.ptr p4 0]])) p5 (.map (some .i64) (List.map (kvE kI pv_Tree) r.2))) p6 (.arr g6 1 (List.map (rowO 1 rowI) a6))))):=by
 intro n
 induction n with
 | zero=>intro σ p1 hp1 p2 hp2 p3 hp3 p4 hp4 p5 hp5 p6 g6 hp6 hne1_2 hne1_3 hne1_4 hne1_5 hne1_6 hne2_1 hne2_3 hne2_4 hne2_5 hne2_6 hne3_1 hne3_2 hne3_4 hne3_5 hne3_6 hne4_1 hne4_2 hne4_3 hne4_5 hne4_6 hne5_1 hne5_2 hne5_3 hne5_4 hne5_6 hne6_1 hne6_2 hne6_3 hne6_4 hne6_5 a0 a3 a5 a6 l6 r h; cases h
 | succ n ih =>
  intro σ p1 hp1 p2 hp2 p3 hp3 p4 hp4 p5 hp5 p6 g6 hp6 hne1_2 hne1_3 hne1_4 hne1_5 hne1_6 hne2_1 hne2_3 hne2_4 hne2_5 hne2_6 hne3_1 hne3_2 hne3_4 hne3_5 hne3_6 hne4_1 hne4_2 hne4_3 hne4_5 hne4_6 hne5_1 hne5_2 hne5_3 hne5_4 hne5_6 hne6_1 hne6_2 hne6_3 hne6_4 hne6_5 a0 a3 a5 a6 l6 r h
  refine Sat.fn fun Q hQ=>?_
  rw [empty_least_1_xesfcdo] at h
  rw [call106]
  conv=>arg 1; arg 7; unfold S22.c106 Try.f106; simp only [Option.getD_some]
  have e_m1f:findKV (.int .i64 a0) (List.map (kvE kI pv_Tree) a5) = Option.map pv_Tree (mget a0 a5):=find_I pv_Tree _ a5
  have e_m1r:mapRes true (.agg [iv 0,.sl none 2 []]) (Option.map pv_Tree (mget a0 a5)) = .p (.tup [.agg [iv (((mget a0 a5).getD (Tree.mk 0 ([]:List Tree))).Sym),.sl none 2 (List.map row_Tree (((mget a0 a5).getD (Tree.mk 0 ([]:List Tree))).Kids))],bv ((mget a0 a5).isSome)]):=by first | exact res_t pv_Tree (Tree.mk 0 ([]:List Tree)) _ | (simp only [pv_Tree]; cases (mget a0 a5) <;> rfl) | (cases (mget a0 a5) <;> simp [mapRes,pv_Tree])
  by_cases c1:((mget a0 a5).isSome) = true
  ·have h:=iteT h c1
   simp only [go_sem,e_m1f,e_m1r,c1,hp1,fun k=>Nat.lt_add_right k hp1,hp2,fun k=>Nat.lt_add_right k hp2,hp3,fun k=>Nat.lt_add_right k hp3,hp4,fun k=>Nat.lt_add_right k hp4,hp5,fun k=>Nat.lt_add_right k hp5,hp6,fun k=>Nat.lt_add_right k hp6,hne1_2,hne1_3,hne1_4,hne1_5,hne1_6,hne2_1,hne2_3,hne2_4,hne2_5,hne2_6,hne3_1,hne3_2,hne3_4,hne3_5,hne3_6,hne4_1,hne4_2,hne4_3,hne4_5,hne4_6,hne5_1,hne5_2,hne5_3,hne5_4,hne5_6,hne6_1,hne6_2,hne6_3,hne6_4,hne6_5,Nat.not_le_of_lt hp1,fun k=>Nat.not_le_of_lt (Nat.lt_add_right k hp1),Nat.not_le_of_lt hp2,fun k=>Nat.not_le_of_lt (Nat.lt_add_right k hp2),Nat.not_le_of_lt hp3,fun k=>Nat.not_le_of_lt (Nat.lt_add_right k hp3),Nat.not_le_of_lt hp4,fun k=>Nat.not_le_of_lt (Nat.lt_add_right k hp4),Nat.not_le_of_lt hp5,fun k=>Nat.not_le_of_lt (Nat.lt_add_right k hp5),Nat.not_le_of_lt hp6,fun k=>Nat.not_le_of_lt (Nat.lt_add_right k hp6)]
   injection h with h; subst h
   exact Sat.ok hQ
  ·have h:=iteF h c1
   have c1:=eq_false_of_ne_true c1
   obtain ⟨v1,e_v1,h⟩:=ob h
   obtain ⟨e_v1a,e_v1b,e_v1d⟩:=idxM_some e_v1
   simp only [go_sem,e_m1f,e_m1r,c1,e_v1a,e_v1b,e_v1d,hp1,fun k=>Nat.lt_add_right k hp1,hp2,fun k=>Nat.lt_add_right k hp2,hp3,fun k=>Nat.lt_add_right k hp3,hp4,fun k=>Nat.lt_add_right k hp4,hp5,fun k=>Nat.lt_add_right k hp5,hp6,fun k=>Nat.lt_add_right k hp6,hne1_2,hne1_3,hne1_4,hne1_5,hne1_6,hne2_1,hne2_3,hne2_4,hne2_5,hne2_6,hne3_1,hne3_2,hne3_4,hne3_5,hne3_6,hne4_1,hne4_2,hne4_3,hne4_5,hne4_6,hne5_1,hne5_2,hne5_3,hne5_4,hne5_6,hne6_1,hne6_2,hne6_3,hne6_4,hne6_5,Nat.not_le_of_lt hp1,fun k=>Nat.not_le_of_lt (Nat.lt_add_right k hp1),Nat.not_le_of_lt hp2,fun k=>Nat.not_le_of_lt (Nat.lt_add_right k hp2),Nat.not_le_of_lt hp3,fun k=>Nat.not_le_of_lt (Nat.lt_add_right k hp3),Nat.not_le_of_lt hp4,fun k=>Nat.not_le_of_lt (Nat.lt_add_right k hp4),Nat.not_le_of_lt hp5,fun k=>Nat.not_le_of_lt (Nat.lt_add_right k hp5),Nat.not_le_of_lt hp6,fun k=>Nat.not_le_of_lt (Nat.lt_add_right k hp6)]
   refine run_rangeL (c:=L106_0) (live:=[0,1,3,4,6,9,26,27,28]) (by simp only [go_sem]) (M:=fun i3 (s3:(List (Int×Tree))×Int×(List Tree))=>[(0,.p (iv a0)),(1,.ptr p1 0),(3,.ptr p3 0),(4,.ptr p4 0),(6,.ptr σ.length 0),(9,.ptr (σ.length + 2) 0),(26,.p (.sl none 1 (List.map rowI v1))),(27,.p (iv (v1.length:Int))),(28,.p (iv (i3:Int)))]) (Z:=fun i3 (s3:(List (Int×Tree))×Int×(List Tree))=>((List.set (List.set (List.set (List.set (List.set (List.set σ p1 (.cells [.mp p5])) p2 (.cells [.ms p6 g6 1 0 l6])) p3 (.cells [.p (iv a3.States),.p (.sl none 1 (List.map rowI a3.Final)),.p (.sl none 3 (List.map row_Rule a3.Rules))])) p4 (.cells [.fn 106 [.ptr p1 0,.ptr p2 0,.ptr p3 0,.ptr p4 0]])) p5 (.map (some .i64) (List.map (kvE kI pv_Tree) s3.1))) p6 (.arr g6 1 (List.map (rowO 1 rowI) a6))) ++ [.cells [.p (iv 0),.own 2 []],.cells [.p (iv (((mget a0 a5).getD (Tree.mk 0 ([]:List Tree))).Sym)),.p (.sl none 2 (List.map row_Tree (((mget a0 a5).getD (Tree.mk 0 ([]:List Tree))).Kids)))],.cells [.p (iv s3.2.1),.p (.sl none 2 (List.map row_Tree s3.2.2))]])) (N:=fun (s3:(List (Int×Tree))×Int×(List Tree))=>⟨[(0,.p (iv a0)),(1,.ptr p1 0),(6,.ptr σ.length 0),(9,.ptr (σ.length + 2) 0)],((List.set (List.set (List.set (List.set (List.set (List.set σ p1 (.cells [.mp p5])) p2 (.cells [.ms p6 g6 1 0 l6])) p3 (.cells [.p (iv a3.States),.p (.sl none 1 (List.map rowI a3.Final)),.p (.sl none 3 (List.map row_Rule a3.Rules))])) p4 (.cells [.fn 106 [.ptr p1 0,.ptr p2 0,.ptr p3 0,.ptr p4 0]])) p5 (.map (some .i64) (List.map (kvE kI pv_Tree) s3.1))) p6 (.arr g6 1 (List.map (rowO 1 rowI) a6))) ++ [.cells [.p (iv 0),.own 2 []],.cells [.p (iv (((mget a0 a5).getD (Tree.mk 0 ([]:List Tree))).Sym)),.p (.sl none 2 (List.map row_Tree (((mget a0 a5).getD (Tree.mk 0 ([]:List Tree))).Kids)))],.cells [.p (iv s3.2.1),.p (.sl none 2 (List.map row_Tree s3.2.2))]]),[],none,false⟩) h rfl rfl (fun _ _=>rfl) ?_ ?_ ?_
   ·intro s3 h
    try dsimp only at h ⊢
    have e_m2y:setKV (.int .i64 a0) (.agg [iv s3.2.1,.sl none 2 (List.map row_Tree s3.2.2)]) (List.map (kvE kI pv_Tree) s3.1) = List.map (kvE kI pv_Tree) (mput a0 (Tree.mk s3.2.1 s3.2.2) s3.1):=by first | exact set_I pv_Tree a0 (Tree.mk s3.2.1 s3.2.2) s3.1 | (have q:=set_I pv_Tree a0 (Tree.mk s3.2.1 s3.2.2) s3.1; simp only [pv_Tree] at q ⊢; exact q)
    simp only [go_sem,e_m2y,hp1,fun k=>Nat.lt_add_right k hp1,hp2,fun k=>Nat.lt_add_right k hp2,hp3,fun k=>Nat.lt_add_right k hp3,hp4,fun k=>Nat.lt_add_right k hp4,hp5,fun k=>Nat.lt_add_right k hp5,hp6,fun k=>Nat.lt_add_right k hp6,hne1_2,hne1_3,hne1_4,hne1_5,hne1_6,hne2_1,hne2_3,hne2_4,hne2_5,hne2_6,hne3_1,hne3_2,hne3_4,hne3_5,hne3_6,hne4_1,hne4_2,hne4_3,hne4_5,hne4_6,hne5_1,hne5_2,hne5_3,hne5_4,hne5_6,hne6_1,hne6_2,hne6_3,hne6_4,hne6_5,Nat.not_le_of_lt hp1,fun k=>Nat.not_le_of_lt (Nat.lt_add_right k hp1),Nat.not_le_of_lt hp2,fun k=>Nat.not_le_of_lt (Nat.lt_add_right k hp2),Nat.not_le_of_lt hp3,fun k=>Nat.not_le_of_lt (Nat.lt_add_right k hp3),Nat.not_le_of_lt hp4,fun k=>Nat.not_le_of_lt (Nat.lt_add_right k hp4),Nat.not_le_of_lt hp5,fun k=>Nat.not_le_of_lt (Nat.lt_add_right k hp5),Nat.not_le_of_lt hp6,fun k=>Nat.not_le_of_lt (Nat.lt_add_right k hp6)]
    injection h with h; subst h
    exact Sat.ok hQ
   ·intro K3 s3 hb3 he3
    try dsimp only
    conv=>arg 1; arg 7; unfold L106_0 loopAt S22.c106 Try.f106; simp only [loopIn,Option.getD_some,if_true]
    simp only [go_sem,he3,hp1,fun k=>Nat.lt_add_right k hp1,hp2,fun k=>Nat.lt_add_right k hp2,hp3,fun k=>Nat.lt_add_right k hp3,hp4,fun k=>Nat.lt_add_right k hp4,hp5,fun k=>Nat.lt_add_right k hp5,hp6,fun k=>Nat.lt_add_right k hp6,hne1_2,hne1_3,hne1_4,hne1_5,hne1_6,hne2_1,hne2_3,hne2_4,hne2_5,hne2_6,hne3_1,hne3_2,hne3_4,hne3_5,hne3_6,hne4_1,hne4_2,hne4_3,hne4_5,hne4_6,hne5_1,hne5_2,hne5_3,hne5_4,hne5_6,hne6_1,hne6_2,hne6_3,hne6_4,hne6_5,Nat.not_le_of_lt hp1,fun k=>Nat.not_le_of_lt (Nat.lt_add_right k hp1),Nat.not_le_of_lt hp2,fun k=>Nat.not_le_of_lt (Nat.lt_add_right k hp2),Nat.not_le_of_lt hp3,fun k=>Nat.not_le_of_lt (Nat.lt_add_right k hp3),Nat.not_le_of_lt hp4,fun k=>Nat.not_le_of_lt (Nat.lt_add_right k hp4),Nat.not_le_of_lt hp5,fun k=>Nat.not_le_of_lt (Nat.lt_add_right k hp5),Nat.not_le_of_lt hp6,fun k=>Nat.not_le_of_lt (Nat.lt_add_right k hp6)]
    exact hb3
   ·intro K3 k3 i3 x3 s3 n3 hR3 hE3 hb3 hx3 hi3 hw3 ih3 h
    try dsimp only at h ⊢
    conv=>arg 1; arg 7; unfold L106_0 loopAt S22.c106 Try.f106; simp only [loopIn,Option.getD_some,if_true]
    obtain ⟨v2,e_v2,h⟩:=ob h
    obtain ⟨e_v2a,e_v2b⟩:=idx_some e_v2
    simp only [go_sem,hx3,hi3,hw3,e_v2a,e_v2b,hR3,hE3,hp1,fun k=>Nat.lt_add_right k hp1,hp2,fun k=>Nat.lt_add_right k hp2,hp3,fun k=>Nat.lt_add_right k hp3,hp4,fun k=>Nat.lt_add_right k hp4,hp5,fun k=>Nat.lt_add_right k hp5,hp6,fun k=>Nat.lt_add_right k hp6,hne1_2,hne1_3,hne1_4,hne1_5,hne1_6,hne2_1,hne2_3,hne2_4,hne2_5,hne2_6,hne3_1,hne3_2,hne3_4,hne3_5,hne3_6,hne4_1,hne4_2,hne4_3,hne4_5,hne4_6,hne5_1,hne5_2,hne5_3,hne5_4,hne5_6,hne6_1,hne6_2,hne6_3,hne6_4,hne6_5,Nat.not_le_of_lt hp1,fun k=>Nat.not_le_of_lt (Nat.lt_add_right k hp1),Nat.not_le_of_lt hp2,fun k=>Nat.not_le_of_lt (Nat.lt_add_right k hp2),Nat.not_le_of_lt hp3,fun k=>Nat.not_le_of_lt (Nat.lt_add_right k hp3),Nat.not_le_of_lt hp4,fun k=>Nat.not_le_of_lt (Nat.lt_add_right k hp4),Nat.not_le_of_lt hp5,fun k=>Nat.not_le_of_lt (Nat.lt_add_right k hp5),Nat.not_le_of_lt hp6,fun k=>Nat.not_le_of_lt (Nat.lt_add_right k hp6)]
    refine run_rangeL (c:=L106_2) (live:=[0,1,3,4,6,9,10,12,26,27,28,45,46,47]) (by simp only [go_sem]) (M:=fun i4 (s4:(List (Int×Tree))×(List Tree))=>[(0,.p (iv a0)),(1,.ptr p1 0),(3,.ptr p3 0),(4,.ptr p4 0),(6,.ptr σ.length 0),(9,.ptr (σ.length + 2) 0),(10,.p (iv (i3:Int))),(12,.ptr (σ.length + 3) 0),(26,.p (.sl none 1 (List.map rowI v1))),(27,.p (iv (v1.length:Int))),(28,.p (iv (i3:Int))),(45,.p (.sl none 1 (List.map rowI v2.From))),(46,.p (iv (v2.From.length:Int))),(47,.p (iv (i4:Int)))]) (Z:=fun i4 (s4:(List (Int×Tree))×(List Tree))=>((List.set (List.set (List.set (List.set (List.set (List.set σ p1 (.cells [.mp p5])) p2 (.cells [.ms p6 g6 1 0 l6])) p3 (.cells [.p (iv a3.States),.p (.sl none 1 (List.map rowI a3.Final)),.p (.sl none 3 (List.map row_Rule a3.Rules))])) p4 (.cells [.fn 106 [.ptr p1 0,.ptr p2 0,.ptr p3 0,.ptr p4 0]])) p5 (.map (some .i64) (List.map (kvE kI pv_Tree) s4.1))) p6 (.arr g6 1 (List.map (rowO 1 rowI) a6))) ++ [.cells [.p (iv 0),.own 2 []],.cells [.p (iv (((mget a0 a5).getD (Tree.mk 0 ([]:List Tree))).Sym)),.p (.sl none 2 (List.map row_Tree (((mget a0 a5).getD (Tree.mk 0 ([]:List Tree))).Kids)))],.cells [.p (iv s3.2.1),.p (.sl none 2 (List.map row_Tree s3.2.2))],.cells [.p (iv v2.Sym),.own 2 (List.map row_Tree s4.2)]])) (N:=fun (s4:(List (Int×Tree))×(List Tree))=>⟨[(0,.p (iv a0)),(1,.ptr p1 0),(3,.ptr p3 0),(4,.ptr p4 0),(6,.ptr σ.length 0),(9,.ptr (σ.length + 2) 0),(10,.p (iv (i3:Int))),(12,.ptr (σ.length + 3) 0),(26,.p (.sl none 1 (List.map rowI v1))),(27,.p (iv (v1.length:Int))),(28,.p (iv (i3:Int)))],((List.set (List.set (List.set (List.set (List.set (List.set σ p1 (.cells [.mp p5])) p2 (.cells [.ms p6 g6 1 0 l6])) p3 (.cells [.p (iv a3.States),.p (.sl none 1 (List.map rowI a3.Final)),.p (.sl none 3 (List.map row_Rule a3.Rules))])) p4 (.cells [.fn 106 [.ptr p1 0,.ptr p2 0,.ptr p3 0,.ptr p4 0]])) p5 (.map (some .i64) (List.map (kvE kI pv_Tree) s4.1))) p6 (.arr g6 1 (List.map (rowO 1 rowI) a6))) ++ [.cells [.p (iv 0),.own 2 []],.cells [.p (iv (((mget a0 a5).getD (Tree.mk 0 ([]:List Tree))).Sym)),.p (.sl none 2 (List.map row_Tree (((mget a0 a5).getD (Tree.mk 0 ([]:List Tree))).Kids)))],.cells [.p (iv s3.2.1),.p (.sl none 2 (List.map row_Tree s3.2.2))],.cells [.p (iv v2.Sym),.own 2 (List.map row_Tree s4.2)]]),[],none,false⟩) h rfl rfl (fun _ _=>rfl) ?_ ?_ ?_
    ·intro s4 h
     try dsimp only at h ⊢
     by_cases c2:(i3:Int) = 0
     ·have h:=iteT h c2
      have c2b:((i3:Int) == 0) = true:=beqT c2
      simp only [go_sem,c2b,hw3,hR3,hE3,hp1,fun k=>Nat.lt_add_right k hp1,hp2,fun k=>Nat.lt_add_right k hp2,hp3,fun k=>Nat.lt_add_right k hp3,hp4,fun k=>Nat.lt_add_right k hp4,hp5,fun k=>Nat.lt_add_right k hp5,hp6,fun k=>Nat.lt_add_right k hp6,hne1_2,hne1_3,hne1_4,hne1_5,hne1_6,hne2_1,hne2_3,hne2_4,hne2_5,hne2_6,hne3_1,hne3_2,hne3_4,hne3_5,hne3_6,hne4_1,hne4_2,hne4_3,hne4_5,hne4_6,hne5_1,hne5_2,hne5_3,hne5_4,hne5_6,hne6_1,hne6_2,hne6_3,hne6_4,hne6_5,Nat.not_le_of_lt hp1,fun k=>Nat.not_le_of_lt (Nat.lt_add_right k hp1),Nat.not_le_of_lt hp2,fun k=>Nat.not_le_of_lt (Nat.lt_add_right k hp2),Nat.not_le_of_lt hp3,fun k=>Nat.not_le_of_lt (Nat.lt_add_right k hp3),Nat.not_le_of_lt hp4,fun k=>Nat.not_le_of_lt (Nat.lt_add_right k hp4),Nat.not_le_of_lt hp5,fun k=>Nat.not_le_of_lt (Nat.lt_add_right k hp5),Nat.not_le_of_lt hp6,fun k=>Nat.not_le_of_lt (Nat.lt_add_right k hp6)]
      exact ih3 (s4.1,v2.Sym,s4.2) h
     ·have h:=iteF h c2
      have c2b:((i3:Int) == 0) = false:=beqF c2
      obtain ⟨v3,e_v3,h⟩:=ob h
      have e_v3c:call Try.prog T H (.fn 66) [.p (.agg [iv v2.Sym,.sl none 2 (List.map row_Tree s4.2)]),.p (.agg [iv s3.2.1,.sl none 2 (List.map row_Tree s3.2.2)])] [] = some (.ret (.p (iv v3)),[]):=spec66 n (Tree.mk v2.Sym s4.2) (Tree.mk s3.2.1 s3.2.2) v3 e_v3
      by_cases c3:v3 < 0
      ·have h:=iteT h c3
       simp only [go_sem,c2b,e_v3c,c3,hw3,hR3,hE3,hp1,fun k=>Nat.lt_add_right k hp1,hp2,fun k=>Nat.lt_add_right k hp2,hp3,fun k=>Nat.lt_add_right k hp3,hp4,fun k=>Nat.lt_add_right k hp4,hp5,fun k=>Nat.lt_add_right k hp5,hp6,fun k=>Nat.lt_add_right k hp6,hne1_2,hne1_3,hne1_4,hne1_5,hne1_6,hne2_1,hne2_3,hne2_4,hne2_5,hne2_6,hne3_1,hne3_2,hne3_4,hne3_5,hne3_6,hne4_1,hne4_2,hne4_3,hne4_5,hne4_6,hne5_1,hne5_2,hne5_3,hne5_4,hne5_6,hne6_1,hne6_2,hne6_3,hne6_4,hne6_5,Nat.not_le_of_lt hp1,fun k=>Nat.not_le_of_lt (Nat.lt_add_right k hp1),Nat.not_le_of_lt hp2,fun k=>Nat.not_le_of_lt (Nat.lt_add_right k hp2),Nat.not_le_of_lt hp3,fun k=>Nat.not_le_of_lt (Nat.lt_add_right k hp3),Nat.not_le_of_lt hp4,fun k=>Nat.not_le_of_lt (Nat.lt_add_right k hp4),Nat.not_le_of_lt hp5,fun k=>Nat.not_le_of_lt (Nat.lt_add_right k hp5),Nat.not_le_of_lt hp6,fun k=>Nat.not_le_of_lt (Nat.lt_add_right k hp6)]
       exact ih3 (s4.1,v2.Sym,s4.2) h
      ·have h:=iteF h c3
       simp only [go_sem,c2b,e_v3c,c3,hw3,hR3,hE3,hp1,fun k=>Nat.lt_add_right k hp1,hp2,fun k=>Nat.lt_add_right k hp2,hp3,fun k=>Nat.lt_add_right k hp3,hp4,fun k=>Nat.lt_add_right k hp4,hp5,fun k=>Nat.lt_add_right k hp5,hp6,fun k=>Nat.lt_add_right k hp6,hne1_2,hne1_3,hne1_4,hne1_5,hne1_6,hne2_1,hne2_3,hne2_4,hne2_5,hne2_6,hne3_1,hne3_2,hne3_4,hne3_5,hne3_6,hne4_1,hne4_2,hne4_3,hne4_5,hne4_6,hne5_1,hne5_2,hne5_3,hne5_4,hne5_6,hne6_1,hne6_2,hne6_3,hne6_4,hne6_5,Nat.not_le_of_lt hp1,fun k=>Nat.not_le_of_lt (Nat.lt_add_right k hp1),Nat.not_le_of_lt hp2,fun k=>Nat.not_le_of_lt (Nat.lt_add_right k hp2),Nat.not_le_of_lt hp3,fun k=>Nat.not_le_of_lt (Nat.lt_add_right k hp3),Nat.not_le_of_lt hp4,fun k=>Nat.not_le_of_lt (Nat.lt_add_right k hp4),Nat.not_le_of_lt hp5,fun k=>Nat.not_le_of_lt (Nat.lt_add_right k hp5),Nat.not_le_of_lt hp6,fun k=>Nat.not_le_of_lt (Nat.lt_add_right k hp6)]
       exact ih3 (s4.1,s3.2.1,s3.2.2) h
    ·intro K4 s4 hb4 he4
     try dsimp only
     conv=>arg 1; arg 7; unfold L106_2 loopAt S22.c106 Try.f106; simp only [loopIn,Option.getD_some,if_true]
     simp only [go_sem,he4,hp1,fun k=>Nat.lt_add_right k hp1,hp2,fun k=>Nat.lt_add_right k hp2,hp3,fun k=>Nat.lt_add_right k hp3,hp4,fun k=>Nat.lt_add_right k hp4,hp5,fun k=>Nat.lt_add_right k hp5,hp6,fun k=>Nat.lt_add_right k hp6,hne1_2,hne1_3,hne1_4,hne1_5,hne1_6,hne2_1,hne2_3,hne2_4,hne2_5,hne2_6,hne3_1,hne3_2,hne3_4,hne3_5,hne3_6,hne4_1,hne4_2,hne4_3,hne4_5,hne4_6,hne5_1,hne5_2,hne5_3,hne5_4,hne5_6,hne6_1,hne6_2,hne6_3,hne6_4,hne6_5,Nat.not_le_of_lt hp1,fun k=>Nat.not_le_of_lt (Nat.lt_add_right k hp1),Nat.not_le_of_lt hp2,fun k=>Nat.not_le_of_lt (Nat.lt_add_right k hp2),Nat.not_le_of_lt hp3,fun k=>Nat.not_le_of_lt (Nat.lt_add_right k hp3),Nat.not_le_of_lt hp4,fun k=>Nat.not_le_of_lt (Nat.lt_add_right k hp4),Nat.not_le_of_lt hp5,fun k=>Nat.not_le_of_lt (Nat.lt_add_right k hp5),Nat.not_le_of_lt hp6,fun k=>Nat.not_le_of_lt (Nat.lt_add_right k hp6)]
     exact hb4
    ·intro K4 k4 i4 x4 s4 n4 hR4 hE4 hb4 hx4 hi4 hw4 ih4 h
     try dsimp only at h ⊢
     conv=>arg 1; arg 7; unfold L106_2 loopAt S22.c106 Try.f106; simp only [loopIn,Option.getD_some,if_true]
     obtain ⟨v4,e_v4,h⟩:=ob h
     have e_v4c:call Try.prog T H (.fn 106) [.p (iv x4),.ptr p1 0,.ptr p2 0,.ptr p3 0,.ptr p4 0] ((List.set (List.set (List.set (List.set (List.set (List.set σ p1 (.cells [.mp p5])) p2 (.cells [.ms p6 g6 1 0 l6])) p3 (.cells [.p (iv a3.States),.p (.sl none 1 (List.map rowI a3.Final)),.p (.sl none 3 (List.map row_Rule a3.Rules))])) p4 (.cells [.fn 106 [.ptr p1 0,.ptr p2 0,.ptr p3 0,.ptr p4 0]])) p5 (.map (some .i64) (List.map (kvE kI pv_Tree) s4.1))) p6 (.arr g6 1 (List.map (rowO 1 rowI) a6))) ++ [.cells [.p (iv 0),.own 2 []],.cells [.p (iv (((mget a0 a5).getD (Tree.mk 0 ([]:List Tree))).Sym)),.p (.sl none 2 (List.map row_Tree (((mget a0 a5).getD (Tree.mk 0 ([]:List Tree))).Kids)))],.cells [.p (iv s3.2.1),.p (.sl none 2 (List.map row_Tree s3.2.2))],.hid]) = some (.ret (.p (.agg [iv v4.1.Sym,.sl none 2 (List.map row_Tree v4.1.Kids)])),((List.set (List.set (List.set (List.set (List.set (List.set σ p1 (.cells [.mp p5])) p2 (.cells [.ms p6 g6 1 0 l6])) p3 (.cells [.p (iv a3.States),.p (.sl none 1 (List.map rowI a3.Final)),.p (.sl none 3 (List.map row_Rule a3.Rules))])) p4 (.cells [.fn 106 [.ptr p1 0,.ptr p2 0,.ptr p3 0,.ptr p4 0]])) p5 (.map (some .i64) (List.map (kvE kI pv_Tree) v4.2))) p6 (.arr g6 1 (List.map (rowO 1 rowI) a6))) ++ [.cells [.p (iv 0),.own 2 []],.cells [.p (iv (((mget a0 a5).getD (Tree.mk 0 ([]:List Tree))).Sym)),.p (.sl none 2 (List.map row_Tree (((mget a0 a5).getD (Tree.mk 0 ([]:List Tree))).Kids)))],.cells [.p (iv s3.2.1),.p (.sl none 2 (List.map row_Tree s3.2.2))],.hid])):=by have q:=ih ((List.set (List.set (List.set (List.set (List.set (List.set σ p1 (.cells [.mp p5])) p2 (.cells [.ms p6 g6 1 0 l6])) p3 (.cells [.p (iv a3.States),.p (.sl none 1 (List.map rowI a3.Final)),.p (.sl none 3 (List.map row_Rule a3.Rules))])) p4 (.cells [.fn 106 [.ptr p1 0,.ptr p2 0,.ptr p3 0,.ptr p4 0]])) p5 (.map (some .i64) (List.map (kvE kI pv_Tree) s4.1))) p6 (.arr g6 1 (List.map (rowO 1 rowI) a6))) ++ [.cells [.p (iv 0),.own 2 []],.cells [.p (iv (((mget a0 a5).getD (Tree.mk 0 ([]:List Tree))).Sym)),.p (.sl none 2 (List.map row_Tree (((mget a0 a5).getD (Tree.mk 0 ([]:List Tree))).Kids)))],.cells [.p (iv s3.2.1),.p (.sl none 2 (List.map row_Tree s3.2.2))],.hid]) p1 (by simp only [List.length_append,List.length_set,List.length_cons,List.length_nil]; omega) p2 (by simp only [List.length_append,List.length_set,List.length_cons,List.length_nil]; omega) p3 (by simp only [List.length_append,List.length_set,List.length_cons,List.length_nil]; omega) p4 (by simp only [List.length_append,List.length_set,List.length_cons,List.length_nil]; omega) p5 (by simp only [List.length_append,List.length_set,List.length_cons,List.length_nil]; omega) p6 g6 (by simp only [List.length_append,List.length_set,List.length_cons,List.length_nil]; omega) (by omega) (by omega) (by omega) (by omega) (by omega) (by omega) (by omega) (by omega) (by omega) (by omega) (by omega) (by omega) (by omega) (by omega) (by omega) (by omega) (by omega) (by omega) (by omega) (by omega) (by omega) (by omega) (by omega) (by omega) (by omega) (by omega) (by omega) (by omega) (by omega) (by omega) x4 a3 s4.1 a6 l6 v4 e_v4; first | (simp only [go_sem,hp1,fun k=>Nat.lt_add_right k hp1,hp2,fun k=>Nat.lt_add_right k hp2,hp3,fun k=>Nat.lt_add_right k hp3,hp4,fun k=>Nat.lt_add_right k hp4,hp5,fun k=>Nat.lt_add_right k hp5,hp6,fun k=>Nat.lt_add_right k hp6,hne1_2,hne1_3,hne1_4,hne1_5,hne1_6,hne2_1,hne2_3,hne2_4,hne2_5,hne2_6,hne3_1,hne3_2,hne3_4,hne3_5,hne3_6,hne4_1,hne4_2,hne4_3,hne4_5,hne4_6,hne5_1,hne5_2,hne5_3,hne5_4,hne5_6,hne6_1,hne6_2,hne6_3,hne6_4,hne6_5,Nat.not_le_of_lt hp1,fun k=>Nat.not_le_of_lt (Nat.lt_add_right k hp1),Nat.not_le_of_lt hp2,fun k=>Nat.not_le_of_lt (Nat.lt_add_right k hp2),Nat.not_le_of_lt hp3,fun k=>Nat.not_le_of_lt (Nat.lt_add_right k hp3),Nat.not_le_of_lt hp4,fun k=>Nat.not_le_of_lt (Nat.lt_add_right k hp4),Nat.not_le_of_lt hp5,fun k=>Nat.not_le_of_lt (Nat.lt_add_right k hp5),Nat.not_le_of_lt hp6,fun k=>Nat.not_le_of_lt (Nat.lt_add_right k hp6)] at q ⊢; exact q) | exact q
     obtain ⟨v5,e_v5,h⟩:=ob h
     have e_v5a:boundOk (s4.2.length + 1) 32 = true:=bnd_of (by have:=(app_some e_v5).1; simpa using this) (by decide)
     have e_v5b:(List.map row_Tree s4.2) ++ [[iv v4.1.Sym,.sl none 2 (List.map row_Tree v4.1.Kids)]] = List.map row_Tree v5:=by rw [(app_some e_v5).2]; simp [row_Tree_eq]
     simp only [go_sem,hx4,hi4,hw4,e_v4c,e_v5a,e_v5b,hw3,hR3,hE3,hR4,hE4,hp1,fun k=>Nat.lt_add_right k hp1,hp2,fun k=>Nat.lt_add_right k hp2,hp3,fun k=>Nat.lt_add_right k hp3,hp4,fun k=>Nat.lt_add_right k hp4,hp5,fun k=>Nat.lt_add_right k hp5,hp6,fun k=>Nat.lt_add_right k hp6,hne1_2,hne1_3,hne1_4,hne1_5,hne1_6,hne2_1,hne2_3,hne2_4,hne2_5,hne2_6,hne3_1,hne3_2,hne3_4,hne3_5,hne3_6,hne4_1,hne4_2,hne4_3,hne4_5,hne4_6,hne5_1,hne5_2,hne5_3,hne5_4,hne5_6,hne6_1,hne6_2,hne6_3,hne6_4,hne6_5,Nat.not_le_of_lt hp1,fun k=>Nat.not_le_of_lt (Nat.lt_add_right k hp1),Nat.not_le_of_lt hp2,fun k=>Nat.not_le_of_lt (Nat.lt_add_right k hp2),Nat.not_le_of_lt hp3,fun k=>Nat.not_le_of_lt (Nat.lt_add_right k hp3),Nat.not_le_of_lt hp4,fun k=>Nat.not_le_of_lt (Nat.lt_add_right k hp4),Nat.not_le_of_lt hp5,fun k=>Nat.not_le_of_lt (Nat.lt_add_right k hp5),Nat.not_le_of_lt hp6,fun k=>Nat.not_le_of_lt (Nat.lt_add_right k hp6)]
     exact ih4 (v4.2,v5) h
def empty_first (n:Nat) (a0:Automaton) (a1:List Int):Option (Tree×Int) :=
 (empty_sizes a0).bind fun v1 =>
 rangeL a1 0 (fun k1 i1 x1 (s1:Int) n1 =>
  (idx v1 x1).bind fun v13 =>
  if 0 < v13 then
   if s1 = 0 then
    n1 v13
   else
    if v13 < s1 then
     n1 v13
    else
     n1 s1
  else
   n1 s1) fun s1 =>
 if s1 = 0 then
  some ((Tree.mk 0 ([]:List Tree)),5)
 else
  if 300 < s1 then
   some ((Tree.mk 0 ([]:List Tree)),3)
  else
   (mkz 24 a0.States a0.States ([]:List Int)).bind fun v2 =>
   rangeL a0.Rules v2 (fun k4 i4 x4 (s4:(List (List Int))) n4 =>
    rangeL x4.From 1 (fun k6 i6 x6 (s6:Int) n6 =>
     (idx v1 x6).bind fun v10 =>
     if v10 = 0 then
      (empty_plus 4611686018427387904 v10).bind fun v11 =>
      n6 v11
     else
      (empty_plus s6 v10).bind fun v12 =>
      n6 v12) fun s6 =>
    (idx v1 x4.To).bind fun v7 =>
    if s6 = v7 then
     if s6 < 4611686018427387904 then
      (idxM ((a0.States).toNat) s4 x4.To).bind fun v8 =>
      (app 8 v8 [(i4:Int)]).bind fun v9 =>
      n4 (List.set s4 ((x4.To).toNat) v9)
     else
      n4 s4
    else
     n4 s4) fun s4 =>
   rangeL a1 (false,([]:List (Int×Tree)),0,([]:List Tree)) (fun k5 i5 x5 (s5:Bool×(List (Int×Tree))×Int×(List Tree)) n5 =>
    (idx v1 x5).bind fun v4 =>
    if v4 = s1 then
     (empty_least_1_xesfcdo n x5 a0 s5.2.1 s4 ((a0.States).toNat)).bind fun v5 =>
     if s5.1 = true then
      (tree_Compare n v5.1 (Tree.mk s5.2.2.1 s5.2.2.2)).bind fun v6 =>
      if v6 < 0 then
       n5 (true,v5.2,v5.1.Sym,v5.1.Kids)
      else
       n5 (true,v5.2,s5.2.2.1,s5.2.2.2)
     else
      n5 (true,v5.2,v5.1.Sym,v5.1.Kids)
    else
     n5 (s5.1,s5.2.1,s5.2.2.1,s5.2.2.2)) fun s5 =>
   (tree_Copy n (Tree.mk s5.2.2.1 s5.2.2.2)).bind fun v3 =>
   some (v3,0)
theorem spec99 (n:Nat) (a0:Automaton) (a1:List Int) (r:Tree×Int) (h:empty_first n a0 a1 = some r) :
 call Try.prog T H (.fn 99) [.p (.agg [iv a0.States,.sl none 1 (List.map rowI a0.Final),.sl none 3 (List.map row_Rule a0.Rules)]),.p (.sl none 1 (List.map rowI a1))] [] = some (.ret (.p (.tup [.agg [iv r.1.Sym,.sl none 2 (List.map row_Tree r.1.Kids)],iv r.2])),[]):=by
 refine Sat.fn fun Q hQ=>?_
 unfold empty_first at h
 rw [call99]
 conv=>arg 1; arg 7; unfold S22.c99 Try.f99; simp only [Option.getD_some]
 obtain ⟨v1,e_v1,h⟩:=ob h
 have e_v1c:=spec69 a0 v1 e_v1
 simp only [go_sem,e_v1c]
 refine run_rangeL (c:=L99_0) (live:=[1,2,4,6,7,18,19,20]) (by simp only [go_sem]) (M:=fun i1 (s1:Int)=>[(1,.p (.sl none 1 (List.map rowI a1))),(2,.ptr 0 0),(4,.ptr 1 0),(6,.p (.sl none 1 (List.map rowI v1))),(7,.p (iv s1)),(18,.p (.sl none 1 (List.map rowI a1))),(19,.p (iv (a1.length:Int))),(20,.p (iv (i1:Int)))]) (Z:=fun i1 (s1:Int)=>[.cells [.p (iv a0.States),.p (.sl none 1 (List.map rowI a0.Final)),.p (.sl none 3 (List.map row_Rule a0.Rules))],.cells [.p (iv 0),.own 2 []]]) (N:=fun (s1:Int)=>⟨[(1,.p (.sl none 1 (List.map rowI a1))),(2,.ptr 0 0),(4,.ptr 1 0),(6,.p (.sl none 1 (List.map rowI v1))),(7,.p (iv s1))],[.cells [.p (iv a0.States),.p (.sl none 1 (List.map rowI a0.Final)),.p (.sl none 3 (List.map row_Rule a0.Rules))],.cells [.p (iv 0),.own 2 []]],[],none,false⟩) h rfl rfl (fun _ _=>rfl) ?_ ?_ ?_
 ·intro s1 h
  try dsimp only at h ⊢
  by_cases c1:s1 = 0
  ·have h:=iteT h c1
   have c1b:(s1 == 0) = true:=beqT c1
   simp only [go_sem,c1b]
   injection h with h; subst h
   exact Sat.ok hQ
  ·have h:=iteF h c1
   have c1b:(s1 == 0) = false:=beqF c1
   by_cases c2:300 < s1
   ·have h:=iteT h c2
    simp only [go_sem,c1b,c2]
    injection h with h; subst h
    exact Sat.ok hQ
   ·have h:=iteF h c2
    simp only [go_sem,c1b,c2]
    refine Sat.callc ?_
    rw [call104]
    conv=>arg 1; arg 7; unfold S22.c104 Try.f104; simp only [Option.getD_some]
    obtain ⟨v2,e_v2,h⟩:=ob h
    obtain ⟨e_v21,e_v22,e_v23,e_v24⟩:=mkz_some e_v2
    have e_v2b:boundOk (a0.States).toNat 24 = true:=bnd_of e_v23 (by decide)
    have e_v2r:List.replicate (a0.States).toNat [.own 1 []] = List.map (rowO 1 rowI) v2:=by rw [e_v24]; exact rep_map (by first | rfl | simp only [go_sem,List.map_nil])
    simp only [go_sem,e_v21,e_v22,e_v2b,e_v2r]
    refine run_rangeL (c:=L104_0) (live:=[1,2,5,17,18,19]) (by simp only [go_sem]) (M:=fun i4 (s4:(List (List Int)))=>[(1,.p (.sl none 1 (List.map rowI v1))),(2,.ptr 2 0),(5,.ptr 4 0),(17,.p (.sl none 3 (List.map row_Rule a0.Rules))),(18,.p (iv (a0.Rules.length:Int))),(19,.p (iv (i4:Int)))]) (Z:=fun i4 (s4:(List (List Int)))=>[.cells [.p (iv a0.States),.p (.sl none 1 (List.map rowI a0.Final)),.p (.sl none 3 (List.map row_Rule a0.Rules))],.cells [.p (iv 0),.own 2 []],.cells [.p (iv a0.States),.p (.sl none 1 (List.map rowI a0.Final)),.p (.sl none 3 (List.map row_Rule a0.Rules))],.arr 0 1 (List.map (rowO 1 rowI) s4),.cells [.ms 3 0 1 0 ((a0.States).toNat)]]) (N:=fun (s4:(List (List Int)))=>⟨[(2,.ptr 2 0),(5,.ptr 4 0)],[.cells [.p (iv a0.States),.p (.sl none 1 (List.map rowI a0.Final)),.p (.sl none 3 (List.map row_Rule a0.Rules))],.cells [.p (iv 0),.own 2 []],.cells [.p (iv a0.States),.p (.sl none 1 (List.map rowI a0.Final)),.p (.sl none 3 (List.map row_Rule a0.Rules))],.arr 0 1 (List.map (rowO 1 rowI) s4),.cells [.ms 3 0 1 0 ((a0.States).toNat)]],[],none,false⟩) h rfl rfl (fun _ _=>rfl) ?_ ?_ ?_
    ·intro s4 h
     try dsimp only at h ⊢
     simp only [go_sem]
     refine Sat.ok ?_
     dsimp only
     simp only [go_sem]
     refine run_rangeL (c:=L99_3) (live:=[4,6,7,10,11,12,57,58,59]) (by simp only [go_sem]) (M:=fun i5 (s5:Bool×(List (Int×Tree))×Int×(List Tree))=>[(4,.ptr 1 0),(6,.p (.sl none 1 (List.map rowI v1))),(7,.p (iv s1)),(10,.fn 106 [.ptr 6 0,.ptr 4 0,.ptr 2 0,.ptr 7 0]),(11,.ptr 8 0),(12,.p (bv s5.1)),(57,.p (.sl none 1 (List.map rowI a1))),(58,.p (iv (a1.length:Int))),(59,.p (iv (i5:Int)))]) (Z:=fun i5 (s5:Bool×(List (Int×Tree))×Int×(List Tree))=>[.cells [.p (iv a0.States),.p (.sl none 1 (List.map rowI a0.Final)),.p (.sl none 3 (List.map row_Rule a0.Rules))],.cells [.p (iv 0),.own 2 []],.cells [.p (iv a0.States),.p (.sl none 1 (List.map rowI a0.Final)),.p (.sl none 3 (List.map row_Rule a0.Rules))],.arr 0 1 (List.map (rowO 1 rowI) s4),.cells [.ms 3 0 1 0 ((a0.States).toNat)],.map (some .i64) (List.map (kvE kI pv_Tree) s5.2.1),.cells [.mp 5],.cells [.fn 106 [.ptr 6 0,.ptr 4 0,.ptr 2 0,.ptr 7 0]],.cells [.p (iv s5.2.2.1),.p (.sl none 2 (List.map row_Tree s5.2.2.2))]]) (N:=fun (s5:Bool×(List (Int×Tree))×Int×(List Tree))=>⟨[(4,.ptr 1 0),(11,.ptr 8 0)],[.cells [.p (iv a0.States),.p (.sl none 1 (List.map rowI a0.Final)),.p (.sl none 3 (List.map row_Rule a0.Rules))],.cells [.p (iv 0),.own 2 []],.cells [.p (iv a0.States),.p (.sl none 1 (List.map rowI a0.Final)),.p (.sl none 3 (List.map row_Rule a0.Rules))],.arr 0 1 (List.map (rowO 1 rowI) s4),.cells [.ms 3 0 1 0 ((a0.States).toNat)],.map (some .i64) (List.map (kvE kI pv_Tree) s5.2.1),.cells [.mp 5],.cells [.fn 106 [.ptr 6 0,.ptr 4 0,.ptr 2 0,.ptr 7 0]],.cells [.p (iv s5.2.2.1),.p (.sl none 2 (List.map row_Tree s5.2.2.2))]],[],none,false⟩) h rfl rfl (fun _ _=>rfl) ?_ ?_ ?_
     ·intro s5 h
      try dsimp only at h ⊢
      obtain ⟨v3,e_v3,h⟩:=ob h
      have e_v3c:call Try.prog T H (.fn 105) [.p (.agg [iv s5.2.2.1,.sl none 2 (List.map row_Tree s5.2.2.2)])] [] = some (.ret (.p (.agg [iv v3.Sym,.sl none 2 (List.map row_Tree v3.Kids)])),[]):=spec105 n (Tree.mk s5.2.2.1 s5.2.2.2) v3 e_v3
      simp only [go_sem,e_v3c]
      injection h with h; subst h
      exact Sat.ok hQ
     ·intro K5 s5 hb5 he5
      try dsimp only
      conv=>arg 1; arg 7; unfold L99_3 loopAt S22.c99 Try.f99; simp only [loopIn,Option.getD_some,if_true]
      simp only [go_sem,he5]
      exact hb5
     ·intro K5 k5 i5 x5 s5 n5 hR5 hE5 hb5 hx5 hi5 hw5 ih5 h
      try dsimp only at h ⊢
      conv=>arg 1; arg 7; unfold L99_3 loopAt S22.c99 Try.f99; simp only [loopIn,Option.getD_some,if_true]
      obtain ⟨v4,e_v4,h⟩:=ob h
      obtain ⟨e_v4a,e_v4b⟩:=idx_some e_v4
      by_cases c3:v4 = s1
      ·have h:=iteT h c3
       have c3b:(v4 != s1) = false:=bneF c3
       obtain ⟨v5,e_v5,h⟩:=ob h
       have e_v5c:call Try.prog T H (.fn 106) [.p (iv x5),.ptr 6 0,.ptr 4 0,.ptr 2 0,.ptr 7 0] [.cells [.p (iv a0.States),.p (.sl none 1 (List.map rowI a0.Final)),.p (.sl none 3 (List.map row_Rule a0.Rules))],.cells [.p (iv 0),.own 2 []],.cells [.p (iv a0.States),.p (.sl none 1 (List.map rowI a0.Final)),.p (.sl none 3 (List.map row_Rule a0.Rules))],.arr 0 1 (List.map (rowO 1 rowI) s4),.cells [.ms 3 0 1 0 ((a0.States).toNat)],.map (some .i64) (List.map (kvE kI pv_Tree) s5.2.1),.cells [.mp 5],.cells [.fn 106 [.ptr 6 0,.ptr 4 0,.ptr 2 0,.ptr 7 0]],.cells [.p (iv s5.2.2.1),.p (.sl none 2 (List.map row_Tree s5.2.2.2))]] = some (.ret (.p (.agg [iv v5.1.Sym,.sl none 2 (List.map row_Tree v5.1.Kids)])),[.cells [.p (iv a0.States),.p (.sl none 1 (List.map rowI a0.Final)),.p (.sl none 3 (List.map row_Rule a0.Rules))],.cells [.p (iv 0),.own 2 []],.cells [.p (iv a0.States),.p (.sl none 1 (List.map rowI a0.Final)),.p (.sl none 3 (List.map row_Rule a0.Rules))],.arr 0 1 (List.map (rowO 1 rowI) s4),.cells [.ms 3 0 1 0 ((a0.States).toNat)],.map (some .i64) (List.map (kvE kI pv_Tree) v5.2),.cells [.mp 5],.cells [.fn 106 [.ptr 6 0,.ptr 4 0,.ptr 2 0,.ptr 7 0]],.cells [.p (iv s5.2.2.1),.p (.sl none 2 (List.map row_Tree s5.2.2.2))]]):=by have q:=spec106_xesfcdo n [.cells [.p (iv a0.States),.p (.sl none 1 (List.map rowI a0.Final)),.p (.sl none 3 (List.map row_Rule a0.Rules))],.cells [.p (iv 0),.own 2 []],.cells [.p (iv a0.States),.p (.sl none 1 (List.map rowI a0.Final)),.p (.sl none 3 (List.map row_Rule a0.Rules))],.arr 0 1 (List.map (rowO 1 rowI) s4),.cells [.ms 3 0 1 0 ((a0.States).toNat)],.map (some .i64) (List.map (kvE kI pv_Tree) s5.2.1),.cells [.mp 5],.cells [.fn 106 [.ptr 6 0,.ptr 4 0,.ptr 2 0,.ptr 7 0]],.cells [.p (iv s5.2.2.1),.p (.sl none 2 (List.map row_Tree s5.2.2.2))]] 6 (by simp only [List.length_append,List.length_set,List.length_cons,List.length_nil]; omega) 4 (by simp only [List.length_append,List.length_set,List.length_cons,List.length_nil]; omega) 2 (by simp only [List.length_append,List.length_set,List.length_cons,List.length_nil]; omega) 7 (by simp only [List.length_append,List.length_set,List.length_cons,List.length_nil]; omega) 5 (by simp only [List.length_append,List.length_set,List.length_cons,List.length_nil]; omega) 3 0 (by simp only [List.length_append,List.length_set,List.length_cons,List.length_nil]; omega) (by omega) (by omega) (by omega) (by omega) (by omega) (by omega) (by omega) (by omega) (by omega) (by omega) (by omega) (by omega) (by omega) (by omega) (by omega) (by omega) (by omega) (by omega) (by omega) (by omega) (by omega) (by omega) (by omega) (by omega) (by omega) (by omega) (by omega) (by omega) (by omega) (by omega) x5 a0 s5.2.1 s4 ((a0.States).toNat) v5 e_v5; first | (simp only [go_sem] at q ⊢; exact q) | exact q
       by_cases c4:s5.1 = true
       ·have h:=iteT h c4
        obtain ⟨v6,e_v6,h⟩:=ob h
        have e_v6c:call Try.prog T H (.fn 66) [.p (.agg [iv v5.1.Sym,.sl none 2 (List.map row_Tree v5.1.Kids)]),.p (.agg [iv s5.2.2.1,.sl none 2 (List.map row_Tree s5.2.2.2)])] [] = some (.ret (.p (iv v6)),[]):=spec66 n v5.1 (Tree.mk s5.2.2.1 s5.2.2.2) v6 e_v6
        by_cases c5:v6 < 0
        ·have h:=iteT h c5
         simp only [go_sem,hx5,hi5,hw5,e_v4a,e_v4b,c3b,e_v5c,c4,e_v6c,c5,hR5,hE5]
         exact ih5 (true,v5.2,v5.1.Sym,v5.1.Kids) h
        ·have h:=iteF h c5
         simp only [go_sem,hx5,hi5,hw5,e_v4a,e_v4b,c3b,e_v5c,c4,e_v6c,c5,hR5,hE5]
         exact ih5 (true,v5.2,s5.2.2.1,s5.2.2.2) h
       ·have h:=iteF h c4
        have c4:=eq_false_of_ne_true c4
        simp only [go_sem,hx5,hi5,hw5,e_v4a,e_v4b,c3b,e_v5c,c4,hR5,hE5]
        exact ih5 (true,v5.2,v5.1.Sym,v5.1.Kids) h
      ·have h:=iteF h c3
       have c3b:(v4 != s1) = true:=bneT c3
       simp only [go_sem,hx5,hi5,hw5,e_v4a,e_v4b,c3b,hR5,hE5]
       exact ih5 (s5.1,s5.2.1,s5.2.2.1,s5.2.2.2) h
    ·intro K4 s4 hb4 he4
     try dsimp only
     conv=>arg 1; arg 7; unfold L104_0 loopAt S22.c104 Try.f104; simp only [loopIn,Option.getD_some,if_true]
     simp only [go_sem,he4]
     exact hb4
    ·intro K4 k4 i4 x4 s4 n4 hR4 hE4 hb4 hx4 hi4 hw4 ih4 h
     try dsimp only at h ⊢
     conv=>arg 1; arg 7; unfold L104_0 loopAt S22.c104 Try.f104; simp only [loopIn,Option.getD_some,if_true]
     simp only [go_sem,hx4,hi4,hw4,hR4,hE4]
     refine run_rangeL (c:=L104_2) (live:=[1,2,5,6,7,8,17,18,19,25,26,27]) (by simp only [go_sem]) (M:=fun i6 (s6:Int)=>[(1,.p (.sl none 1 (List.map rowI v1))),(2,.ptr 2 0),(5,.ptr 4 0),(6,.p (iv (i4:Int))),(7,.ptr 5 0),(8,.p (iv s6)),(17,.p (.sl none 3 (List.map row_Rule a0.Rules))),(18,.p (iv (a0.Rules.length:Int))),(19,.p (iv (i4:Int))),(25,.p (.sl none 1 (List.map rowI x4.From))),(26,.p (iv (x4.From.length:Int))),(27,.p (iv (i6:Int)))]) (Z:=fun i6 (s6:Int)=>[.cells [.p (iv a0.States),.p (.sl none 1 (List.map rowI a0.Final)),.p (.sl none 3 (List.map row_Rule a0.Rules))],.cells [.p (iv 0),.own 2 []],.cells [.p (iv a0.States),.p (.sl none 1 (List.map rowI a0.Final)),.p (.sl none 3 (List.map row_Rule a0.Rules))],.arr 0 1 (List.map (rowO 1 rowI) s4),.cells [.ms 3 0 1 0 ((a0.States).toNat)],.cells [.p (iv x4.Sym),.p (.sl none 1 (List.map rowI x4.From)),.p (iv x4.To)]]) (N:=fun (s6:Int)=>⟨[(1,.p (.sl none 1 (List.map rowI v1))),(2,.ptr 2 0),(5,.ptr 4 0),(6,.p (iv (i4:Int))),(7,.ptr 5 0),(8,.p (iv s6)),(17,.p (.sl none 3 (List.map row_Rule a0.Rules))),(18,.p (iv (a0.Rules.length:Int))),(19,.p (iv (i4:Int)))],[.cells [.p (iv a0.States),.p (.sl none 1 (List.map rowI a0.Final)),.p (.sl none 3 (List.map row_Rule a0.Rules))],.cells [.p (iv 0),.own 2 []],.cells [.p (iv a0.States),.p (.sl none 1 (List.map rowI a0.Final)),.p (.sl none 3 (List.map row_Rule a0.Rules))],.arr 0 1 (List.map (rowO 1 rowI) s4),.cells [.ms 3 0 1 0 ((a0.States).toNat)],.cells [.p (iv x4.Sym),.p (.sl none 1 (List.map rowI x4.From)),.p (iv x4.To)]],[],none,false⟩) h rfl rfl (fun _ _=>rfl) ?_ ?_ ?_
     ·intro s6 h
      try dsimp only at h ⊢
      obtain ⟨v7,e_v7,h⟩:=ob h
      obtain ⟨e_v7a,e_v7b⟩:=idx_some e_v7
      by_cases c6:s6 = v7
      ·have h:=iteT h c6
       have c6b:(s6 == v7) = true:=beqT c6
       by_cases c7:s6 < 4611686018427387904
       ·have h:=iteT h c7
        obtain ⟨v8,e_v8,h⟩:=ob h
        obtain ⟨e_v8a,e_v8b,e_v8d⟩:=idxM_some e_v8
        have e_g1:(List.set (List.map (rowO 1 rowI) s4) ((x4.To).toNat) [.p (.sl none 1 (List.map rowI v8))])[(x4.To).toNat]? = some [.p (.sl none 1 (List.map rowI v8))]:=by first | exact set_get_map e_v8 _ | exact set_get_map e_v8d _
        obtain ⟨v9,e_v9,h⟩:=ob h
        have e_v9a:boundOk (v8.length + 1) 8 = true:=bnd_of (by have:=(app_some e_v9).1; simpa using this) (by decide)
        have e_v9b:(List.map rowI v8) ++ [[iv (i4:Int)]] = List.map rowI v9:=by rw [(app_some e_v9).2]; simp [rowI]
        have e_y1:List.set (List.map (rowO 1 rowI) s4) ((x4.To).toNat) [.own 1 (List.map rowI v9)] = List.map (rowO 1 rowI) (List.set s4 ((x4.To).toNat) v9):=map_set' (by first | rfl | simp only [go_sem,List.map_cons,List.map_nil])
        simp only [go_sem,e_v7a,e_v7b,c6b,c7,e_v8a,e_v8b,e_v8d,e_g1,List.set_set,e_v9a,e_v9b,e_y1,hw4,hR4,hE4]
        exact ih4 (List.set s4 ((x4.To).toNat) v9) h
       ·have h:=iteF h c7
        simp only [go_sem,e_v7a,e_v7b,c6b,c7,hw4,hR4,hE4]
        exact ih4 s4 h
      ·have h:=iteF h c6
       have c6b:(s6 == v7) = false:=beqF c6
       simp only [go_sem,e_v7a,e_v7b,c6b,hw4,hR4,hE4]
       exact ih4 s4 h
     ·intro K6 s6 hb6 he6
      try dsimp only
      conv=>arg 1; arg 7; unfold L104_2 loopAt S22.c104 Try.f104; simp only [loopIn,Option.getD_some,if_true]
      simp only [go_sem,he6]
      exact hb6
     ·intro K6 k6 i6 x6 s6 n6 hR6 hE6 hb6 hx6 hi6 hw6 ih6 h
      try dsimp only at h ⊢
      conv=>arg 1; arg 7; unfold L104_2 loopAt S22.c104 Try.f104; simp only [loopIn,Option.getD_some,if_true]
      obtain ⟨v10,e_v10,h⟩:=ob h
      obtain ⟨e_v10a,e_v10b⟩:=idx_some e_v10
      by_cases c8:v10 = 0
      ·have h:=iteT h c8
       have c8b:(v10 == 0) = true:=beqT c8
       obtain ⟨v11,e_v11,h⟩:=ob h
       have e_v11c:=spec94 4611686018427387904 v10 v11 e_v11
       simp only [go_sem,hx6,hi6,hw6,e_v10a,e_v10b,c8b,e_v11c,hw4,hR4,hE4,hR6,hE6]
       exact ih6 v11 h
      ·have h:=iteF h c8
       have c8b:(v10 == 0) = false:=beqF c8
       obtain ⟨v12,e_v12,h⟩:=ob h
       have e_v12c:=spec94 s6 v10 v12 e_v12
       simp only [go_sem,hx6,hi6,hw6,e_v10a,e_v10b,c8b,e_v12c,hw4,hR4,hE4,hR6,hE6]
       exact ih6 v12 h
 ·intro K1 s1 hb1 he1
  try dsimp only
  conv=>arg 1; arg 7; unfold L99_0 loopAt S22.c99 Try.f99; simp only [loopIn,Option.getD_some,if_true]
  simp only [go_sem,he1]
  exact hb1
 ·intro K1 k1 i1 x1 s1 n1 hR1 hE1 hb1 hx1 hi1 hw1 ih1 h
  try dsimp only at h ⊢
  conv=>arg 1; arg 7; unfold L99_0 loopAt S22.c99 Try.f99; simp only [loopIn,Option.getD_some,if_true]
  obtain ⟨v13,e_v13,h⟩:=ob h
  obtain ⟨e_v13a,e_v13b⟩:=idx_some e_v13
  by_cases c9:0 < v13
  ·have h:=iteT h c9
   by_cases c10:s1 = 0
   ·have h:=iteT h c10
    have c10b:(s1 == 0) = true:=beqT c10
    simp only [go_sem,hx1,hi1,hw1,e_v13a,e_v13b,c9,c10b,hR1,hE1]
    exact ih1 v13 h
   ·have h:=iteF h c10
    have c10b:(s1 == 0) = false:=beqF c10
    by_cases c11:v13 < s1
    ·have h:=iteT h c11
     simp only [go_sem,hx1,hi1,hw1,e_v13a,e_v13b,c9,c10b,c11,hR1,hE1]
     exact ih1 v13 h
    ·have h:=iteF h c11
     simp only [go_sem,hx1,hi1,hw1,e_v13a,e_v13b,c9,c10b,c11,hR1,hE1]
     exact ih1 s1 h
  ·have h:=iteF h c9
   simp only [go_sem,hx1,hi1,hw1,e_v13a,e_v13b,c9,hR1,hE1]
   exact ih1 s1 h
def empty_LeastOf (n:Nat) (a0:Alphabet) (a1:Automaton) (a2:Int):Option (Tree×Int) :=
 (auto_Valid a0 a1).bind fun v1 =>
 if v1 = true then
  if a2 < 0 then
   some ((Tree.mk 0 ([]:List Tree)),6)
  else
   if a1.States≤a2 then
    some ((Tree.mk 0 ([]:List Tree)),6)
   else
    (empty_first n a1 [a2]).bind fun v2 =>
    some (v2.1,v2.2)
 else
  some ((Tree.mk 0 ([]:List Tree)),1)
theorem spec84 (n:Nat) (a0:Alphabet) (a1:Automaton) (a2:Int) (r:Tree×Int) (h:empty_LeastOf n a0 a1 a2 = some r) :
 call Try.prog T H (.fn 84) [.p (.agg [.sl none 1 (List.map rowI a0.Ranks)]),.p (.agg [iv a1.States,.sl none 1 (List.map rowI a1.Final),.sl none 3 (List.map row_Rule a1.Rules)]),.p (iv a2)] [] = some (.ret (.p (.tup [.agg [iv r.1.Sym,.sl none 2 (List.map row_Tree r.1.Kids)],iv r.2])),[]):=by
 refine Sat.fn fun Q hQ=>?_
 unfold empty_LeastOf at h
 rw [call84]
 conv=>arg 1; arg 7; unfold S22.c84 Try.f84; simp only [Option.getD_some]
 obtain ⟨v1,e_v1,h⟩:=ob h
 have e_v1c:=spec28 a0 a1 v1 e_v1
 by_cases c1:v1 = true
 ·have h:=iteT h c1
  by_cases c2:a2 < 0
  ·have h:=iteT h c2
   simp only [go_sem,e_v1c,c1,c2]
   injection h with h; subst h
   exact Sat.ok hQ
  ·have h:=iteF h c2
   by_cases c3:a1.States≤a2
   ·have h:=iteT h c3
    simp only [go_sem,e_v1c,c1,c2,c3]
    injection h with h; subst h
    exact Sat.ok hQ
   ·have h:=iteF h c3
    obtain ⟨v2,e_v2,h⟩:=ob h
    have e_v2c:call Try.prog T H (.fn 99) [.p (.agg [iv a1.States,.sl none 1 (List.map rowI a1.Final),.sl none 3 (List.map row_Rule a1.Rules)]),.p (.sl none 1 [[iv a2]])] [] = some (.ret (.p (.tup [.agg [iv v2.1.Sym,.sl none 2 (List.map row_Tree v2.1.Kids)],iv v2.2])),[]):=by have q:=spec99 n a1 [a2] v2 e_v2; simp only [List.map_cons,List.map_nil,rowI] at q ⊢; exact q
    simp only [go_sem,e_v1c,c1,c2,c3,e_v2c]
    injection h with h; subst h
    exact Sat.ok hQ
 ·have h:=iteF h c1
  have c1:=eq_false_of_ne_true c1
  simp only [go_sem,e_v1c,c1]
  injection h with h; subst h
  exact Sat.ok hQ
def repair_table_keep_pxx (a0:repair_table) (a1:Rule) (a2:Int):Option Int :=
 (idx a0.tree a2).bind fun v1 =>
 if a1.Sym = v1.Sym then
  (idx a0.kids a2).bind fun v2 =>
  if (a1.From.length:Int) = (v2.length:Int) then
   rangeL a1.From 0 (fun k1 i1 x1 (s1:Int) n1 =>
    (v2[i1]?).bind fun v3 =>
    (idx a0.cost v3).bind fun v4 =>
    (idx v4 x1).bind fun v5 =>
    (repair_least_int (w64 (s1 + v5)) 2199023255552).bind fun v6 =>
    n1 v6) fun s1 =>
   some s1
  else
   some 2199023255552
 else
  if a0.w.Relabel < 0 then
   some 2199023255552
  else
   (idx a0.kids a2).bind fun v7 =>
   if (a1.From.length:Int) = (v7.length:Int) then
    rangeL a1.From a0.w.Relabel (fun k2 i2 x2 (s2:Int) n2 =>
     (v7[i2]?).bind fun v8 =>
     (idx a0.cost v8).bind fun v9 =>
     (idx v9 x2).bind fun v10 =>
     (repair_least_int (w64 (s2 + v10)) 2199023255552).bind fun v11 =>
     n2 v11) fun s2 =>
    some s2
   else
    some 2199023255552
theorem spec83_pxx (σ:List AObj) (a0:repair_table) (a1:Rule) (a2:Int) (r:Int) (h:repair_table_keep_pxx a0 a1 a2 = some r) :
 call Try.prog T H (.fn 83) [.p (.pp [iv a0.a.States,.sl none 1 (List.map rowI a0.a.Final),.sl none 3 (List.map row_Rule a0.a.Rules),iv a0.w.Relabel,iv a0.w.Remove,iv a0.w.Insert,.sl none 1 (List.map rowI a0.size),.sl none 1 (List.map (rowL 1 rowI) a0.cost),.sl none 1 (List.map (rowL 1 rowI) a0.kids),.sl none 2 (List.map row_Tree a0.tree)]),.p (.agg [iv a1.Sym,.sl none 1 (List.map rowI a1.From),iv a1.To]),.p (iv a2)] σ = some (.ret (.p (iv r)),σ):=by
 refine Sat.fn fun Q hQ=>?_
 unfold repair_table_keep_pxx at h
 rw [call83]
 conv=>arg 1; arg 7; unfold S22.c83 Try.f83; simp only [Option.getD_some]
 obtain ⟨v1,e_v1,h⟩:=ob h
 obtain ⟨e_v1a,e_v1b⟩:=idx_some e_v1
 by_cases c1:a1.Sym = v1.Sym
 ·have h:=iteT h c1
  have c1b:(a1.Sym != v1.Sym) = false:=bneF c1
  obtain ⟨v2,e_v2,h⟩:=ob h
  obtain ⟨e_v2a,e_v2b⟩:=idx_some e_v2
  by_cases c2:(a1.From.length:Int) = (v2.length:Int)
  ·have h:=iteT h c2
   have c2b:((a1.From.length:Int) != (v2.length:Int)) = false:=bneF c2
   simp only [go_sem,e_v1a,e_v1b,c1b,e_v2a,e_v2b,c2b]
   refine run_rangeL (c:=L83_0) (live:=[0,2,7,45,46,47]) (by simp only [go_sem]) (M:=fun i1 (s1:Int)=>[(0,.p (.pp [iv a0.a.States,.sl none 1 (List.map rowI a0.a.Final),.sl none 3 (List.map row_Rule a0.a.Rules),iv a0.w.Relabel,iv a0.w.Remove,iv a0.w.Insert,.sl none 1 (List.map rowI a0.size),.sl none 1 (List.map (rowL 1 rowI) a0.cost),.sl none 1 (List.map (rowL 1 rowI) a0.kids),.sl none 2 (List.map row_Tree a0.tree)])),(2,.p (iv a2)),(7,.p (iv s1)),(45,.p (.sl none 1 (List.map rowI a1.From))),(46,.p (iv (a1.From.length:Int))),(47,.p (iv (i1:Int)))]) (Z:=fun i1 (s1:Int)=>(σ ++ [.cells [.p (iv a1.Sym),.p (.sl none 1 (List.map rowI a1.From)),.p (iv a1.To)]])) (N:=fun (s1:Int)=>⟨[(7,.p (iv s1))],(σ ++ [.cells [.p (iv a1.Sym),.p (.sl none 1 (List.map rowI a1.From)),.p (iv a1.To)]]),[],none,false⟩) h rfl rfl (fun _ _=>rfl) ?_ ?_ ?_
   ·intro s1 h
    try dsimp only at h ⊢
    simp only [go_sem]
    injection h with h; subst h
    exact Sat.ok hQ
   ·intro K1 s1 hb1 he1
    try dsimp only
    conv=>arg 1; arg 7; unfold L83_0 loopAt S22.c83 Try.f83; simp only [loopIn,Option.getD_some,if_true]
    simp only [go_sem,he1]
    exact hb1
   ·intro K1 k1 i1 x1 s1 n1 hR1 hE1 hb1 hx1 hi1 hw1 ih1 h
    try dsimp only at h ⊢
    conv=>arg 1; arg 7; unfold L83_0 loopAt S22.c83 Try.f83; simp only [loopIn,Option.getD_some,if_true]
    obtain ⟨v3,e_v3,h⟩:=ob h
    obtain ⟨v4,e_v4,h⟩:=ob h
    obtain ⟨e_v4a,e_v4b⟩:=idx_some e_v4
    obtain ⟨v5,e_v5,h⟩:=ob h
    obtain ⟨e_v5a,e_v5b⟩:=idx_some e_v5
    obtain ⟨v6,e_v6,h⟩:=ob h
    have e_v6c:call Try.prog T H (.fn 76) [.p (iv (w64 (s1 + v5))),.p (iv 2199023255552)] [] = some (.ret (.p (iv v6)),[]):=spec76 (w64 (s1 + v5)) 2199023255552 v6 e_v6
    simp only [go_sem,hx1,hi1,hw1,e_v2a,e_v2b,e_v3,e_v4a,e_v4b,e_v5a,e_v5b,e_v6c,hR1,hE1]
    exact ih1 v6 h
  ·have h:=iteF h c2
   have c2b:((a1.From.length:Int) != (v2.length:Int)) = true:=bneT c2
   simp only [go_sem,e_v1a,e_v1b,c1b,e_v2a,e_v2b,c2b]
   injection h with h; subst h
   exact Sat.ok hQ
 ·have h:=iteF h c1
  have c1b:(a1.Sym != v1.Sym) = true:=bneT c1
  by_cases c3:a0.w.Relabel < 0
  ·have h:=iteT h c3
   simp only [go_sem,e_v1a,e_v1b,c1b,c3]
   injection h with h; subst h
   exact Sat.ok hQ
  ·have h:=iteF h c3
   obtain ⟨v7,e_v7,h⟩:=ob h
   obtain ⟨e_v7a,e_v7b⟩:=idx_some e_v7
   by_cases c4:(a1.From.length:Int) = (v7.length:Int)
   ·have h:=iteT h c4
    have c4b:((a1.From.length:Int) != (v7.length:Int)) = false:=bneF c4
    simp only [go_sem,e_v1a,e_v1b,c1b,c3,e_v7a,e_v7b,c4b]
    refine run_rangeL (c:=L83_0) (live:=[0,2,7,45,46,47]) (by simp only [go_sem]) (M:=fun i2 (s2:Int)=>[(0,.p (.pp [iv a0.a.States,.sl none 1 (List.map rowI a0.a.Final),.sl none 3 (List.map row_Rule a0.a.Rules),iv a0.w.Relabel,iv a0.w.Remove,iv a0.w.Insert,.sl none 1 (List.map rowI a0.size),.sl none 1 (List.map (rowL 1 rowI) a0.cost),.sl none 1 (List.map (rowL 1 rowI) a0.kids),.sl none 2 (List.map row_Tree a0.tree)])),(2,.p (iv a2)),(7,.p (iv s2)),(45,.p (.sl none 1 (List.map rowI a1.From))),(46,.p (iv (a1.From.length:Int))),(47,.p (iv (i2:Int)))]) (Z:=fun i2 (s2:Int)=>(σ ++ [.cells [.p (iv a1.Sym),.p (.sl none 1 (List.map rowI a1.From)),.p (iv a1.To)]])) (N:=fun (s2:Int)=>⟨[(7,.p (iv s2))],(σ ++ [.cells [.p (iv a1.Sym),.p (.sl none 1 (List.map rowI a1.From)),.p (iv a1.To)]]),[],none,false⟩) h rfl rfl (fun _ _=>rfl) ?_ ?_ ?_
    ·intro s2 h
     try dsimp only at h ⊢
     simp only [go_sem]
     injection h with h; subst h
     exact Sat.ok hQ
    ·intro K2 s2 hb2 he2
     try dsimp only
     conv=>arg 1; arg 7; unfold L83_0 loopAt S22.c83 Try.f83; simp only [loopIn,Option.getD_some,if_true]
     simp only [go_sem,he2]
     exact hb2
    ·intro K2 k2 i2 x2 s2 n2 hR2 hE2 hb2 hx2 hi2 hw2 ih2 h
     try dsimp only at h ⊢
     conv=>arg 1; arg 7; unfold L83_0 loopAt S22.c83 Try.f83; simp only [loopIn,Option.getD_some,if_true]
     obtain ⟨v8,e_v8,h⟩:=ob h
     obtain ⟨v9,e_v9,h⟩:=ob h
     obtain ⟨e_v9a,e_v9b⟩:=idx_some e_v9
     obtain ⟨v10,e_v10,h⟩:=ob h
     obtain ⟨e_v10a,e_v10b⟩:=idx_some e_v10
     obtain ⟨v11,e_v11,h⟩:=ob h
     have e_v11c:call Try.prog T H (.fn 76) [.p (iv (w64 (s2 + v10))),.p (iv 2199023255552)] [] = some (.ret (.p (iv v11)),[]):=spec76 (w64 (s2 + v10)) 2199023255552 v11 e_v11
     simp only [go_sem,hx2,hi2,hw2,e_v7a,e_v7b,e_v8,e_v9a,e_v9b,e_v10a,e_v10b,e_v11c,hR2,hE2]
     exact ih2 v11 h
   ·have h:=iteF h c4
    have c4b:((a1.From.length:Int) != (v7.length:Int)) = true:=bneT c4
    simp only [go_sem,e_v1a,e_v1b,c1b,c3,e_v7a,e_v7b,c4b]
    injection h with h; subst h
    exact Sat.ok hQ
def repair_table_build_pxxx:Nat→repair_table→Alphabet→Int→Int→Option (Tree×Int)
 | 0,_,_,_,_=>none
 | n + 1,a0,a1,a2,a3 =>
  rangeL a0.a.Rules () (fun k2 i2 x2 (s2:Unit) n2 =>
   if x2.To = a3 then
    (repair_table_keep_pxx a0 x2 a2).bind fun v2 =>
    (idx a0.cost a2).bind fun v3 =>
    (idx v3 a3).bind fun v4 =>
    if v2 = v4 then
     rangeL x2.From ([]:List Tree) (fun k3 i3 x3 (s3:(List Tree)) n3 =>
      (idx a0.kids a2).bind fun v5 =>
      (v5[i3]?).bind fun v6 =>
      (repair_table_build_pxxx n a0 a1 v6 x3).bind fun v7 =>
      if v7.2 = 0 then
       (app 32 s3 [v7.1]).bind fun v8 =>
       n3 v8
      else
       some ((Tree.mk 0 ([]:List Tree)),v7.2)) fun s3 =>
     some ((Tree.mk x2.Sym s3),0)
    else
     n2 ()
   else
    n2 ()) fun s2 =>
  (empty_LeastOf n a1 a0.a a3).bind fun v1 =>
  some (v1.1,v1.2)
theorem spec53_pxxx:∀ (n:Nat),(∀ (a0:repair_table) (a1:Alphabet) (a2:Int) (a3:Int) (r:Tree×Int),repair_table_build_pxxx n a0 a1 a2 a3 = some r →
 call Try.prog T H (.fn 53) [.p (.pp [iv a0.a.States,.sl none 1 (List.map rowI a0.a.Final),.sl none 3 (List.map row_Rule a0.a.Rules),iv a0.w.Relabel,iv a0.w.Remove,iv a0.w.Insert,.sl none 1 (List.map rowI a0.size),.sl none 1 (List.map (rowL 1 rowI) a0.cost),.sl none 1 (List.map (rowL 1 rowI) a0.kids),.sl none 2 (List.map row_Tree a0.tree)]),.p (.agg [.sl none 1 (List.map rowI a1.Ranks)]),.p (iv a2),.p (iv a3)] [] = some (.ret (.p (.tup [.agg [iv r.1.Sym,.sl none 2 (List.map row_Tree r.1.Kids)],iv r.2])),[])):=by
 intro n
 induction n with
 | zero=>intro a0 a1 a2 a3 r h; cases h
 | succ n ih =>
  intro a0 a1 a2 a3 r h
  refine Sat.fn fun Q hQ=>?_
  rw [repair_table_build_pxxx] at h
  rw [call53]
  conv=>arg 1; arg 7; unfold S22.c53 Try.f53; simp only [Option.getD_some]
  simp only [go_sem]
  refine run_rangeL (c:=L53_0) (live:=[0,2,3,5,8,21,22,23]) (by simp only [go_sem]) (M:=fun i2 (s2:Unit)=>[(0,.p (.pp [iv a0.a.States,.sl none 1 (List.map rowI a0.a.Final),.sl none 3 (List.map row_Rule a0.a.Rules),iv a0.w.Relabel,iv a0.w.Remove,iv a0.w.Insert,.sl none 1 (List.map rowI a0.size),.sl none 1 (List.map (rowL 1 rowI) a0.cost),.sl none 1 (List.map (rowL 1 rowI) a0.kids),.sl none 2 (List.map row_Tree a0.tree)])),(2,.p (iv a2)),(3,.p (iv a3)),(5,.ptr 0 0),(8,.ptr 1 0),(21,.p (.sl none 3 (List.map row_Rule a0.a.Rules))),(22,.p (iv (a0.a.Rules.length:Int))),(23,.p (iv (i2:Int)))]) (Z:=fun i2 (s2:Unit)=>[.cells [.p (.sl none 1 (List.map rowI a1.Ranks))],.cells [.p (iv 0),.own 2 []]]) (N:=fun (s2:Unit)=>⟨[(0,.p (.pp [iv a0.a.States,.sl none 1 (List.map rowI a0.a.Final),.sl none 3 (List.map row_Rule a0.a.Rules),iv a0.w.Relabel,iv a0.w.Remove,iv a0.w.Insert,.sl none 1 (List.map rowI a0.size),.sl none 1 (List.map (rowL 1 rowI) a0.cost),.sl none 1 (List.map (rowL 1 rowI) a0.kids),.sl none 2 (List.map row_Tree a0.tree)])),(3,.p (iv a3)),(5,.ptr 0 0),(8,.ptr 1 0)],[.cells [.p (.sl none 1 (List.map rowI a1.Ranks))],.cells [.p (iv 0),.own 2 []]],[],none,false⟩) h rfl rfl (fun _ _=>rfl) ?_ ?_ ?_
  ·intro s2 h
   try dsimp only at h ⊢
   obtain ⟨v1,e_v1,h⟩:=ob h
   have e_v1c:=spec84 n a1 a0.a a3 v1 e_v1
   simp only [go_sem,e_v1c]
   injection h with h; subst h
   exact Sat.ok hQ
  ·intro K2 s2 hb2 he2
   try dsimp only
   conv=>arg 1; arg 7; unfold L53_0 loopAt S22.c53 Try.f53; simp only [loopIn,Option.getD_some,if_true]
   simp only [go_sem,he2]
   exact hb2
  ·intro K2 k2 i2 x2 s2 n2 hR2 hE2 hb2 hx2 hi2 hw2 ih2 h
   try dsimp only at h ⊢
   conv=>arg 1; arg 7; unfold L53_0 loopAt S22.c53 Try.f53; simp only [loopIn,Option.getD_some,if_true]
   by_cases c1:x2.To = a3
   ·have h:=iteT h c1
    have c1b:(x2.To != a3) = false:=bneF c1
    obtain ⟨v2,e_v2,h⟩:=ob h
    have e_v2c:call Try.prog T H (.fn 83) [.p (.pp [iv a0.a.States,.sl none 1 (List.map rowI a0.a.Final),.sl none 3 (List.map row_Rule a0.a.Rules),iv a0.w.Relabel,iv a0.w.Remove,iv a0.w.Insert,.sl none 1 (List.map rowI a0.size),.sl none 1 (List.map (rowL 1 rowI) a0.cost),.sl none 1 (List.map (rowL 1 rowI) a0.kids),.sl none 2 (List.map row_Tree a0.tree)]),.p (.agg [iv x2.Sym,.sl none 1 (List.map rowI x2.From),iv x2.To]),.p (iv a2)] [.cells [.p (.sl none 1 (List.map rowI a1.Ranks))],.cells [.p (iv 0),.own 2 []],.cells [.p (iv x2.Sym),.p (.sl none 1 (List.map rowI x2.From)),.p (iv x2.To)]] = some (.ret (.p (iv v2)),[.cells [.p (.sl none 1 (List.map rowI a1.Ranks))],.cells [.p (iv 0),.own 2 []],.cells [.p (iv x2.Sym),.p (.sl none 1 (List.map rowI x2.From)),.p (iv x2.To)]]):=by have q:=spec83_pxx [.cells [.p (.sl none 1 (List.map rowI a1.Ranks))],.cells [.p (iv 0),.own 2 []],.cells [.p (iv x2.Sym),.p (.sl none 1 (List.map rowI x2.From)),.p (iv x2.To)]] a0 x2 a2 v2 e_v2; first | (simp only [go_sem] at q ⊢; exact q) | exact q
    obtain ⟨v3,e_v3,h⟩:=ob h
    obtain ⟨e_v3a,e_v3b⟩:=idx_some e_v3
    obtain ⟨v4,e_v4,h⟩:=ob h
    obtain ⟨e_v4a,e_v4b⟩:=idx_some e_v4
    by_cases c2:v2 = v4
    ·have h:=iteT h c2
     have c2b:(v2 != v4) = false:=bneF c2
     simp only [go_sem,hx2,hi2,hw2,c1b,e_v2c,e_v3a,e_v3b,e_v4a,e_v4b,c2b,hR2,hE2]
     refine run_rangeL (c:=L53_2) (live:=[0,2,5,8,12,52,53,54]) (by simp only [go_sem]) (M:=fun i3 (s3:(List Tree))=>[(0,.p (.pp [iv a0.a.States,.sl none 1 (List.map rowI a0.a.Final),.sl none 3 (List.map row_Rule a0.a.Rules),iv a0.w.Relabel,iv a0.w.Remove,iv a0.w.Insert,.sl none 1 (List.map rowI a0.size),.sl none 1 (List.map (rowL 1 rowI) a0.cost),.sl none 1 (List.map (rowL 1 rowI) a0.kids),.sl none 2 (List.map row_Tree a0.tree)])),(2,.p (iv a2)),(5,.ptr 0 0),(8,.ptr 1 0),(12,.ptr 3 0),(52,.p (.sl none 1 (List.map rowI x2.From))),(53,.p (iv (x2.From.length:Int))),(54,.p (iv (i3:Int)))]) (Z:=fun i3 (s3:(List Tree))=>[.cells [.p (.sl none 1 (List.map rowI a1.Ranks))],.cells [.p (iv 0),.own 2 []],.cells [.p (iv x2.Sym),.p (.sl none 1 (List.map rowI x2.From)),.p (iv x2.To)],.cells [.p (iv x2.Sym),.own 2 (List.map row_Tree s3)]]) (N:=fun (s3:(List Tree))=>⟨[(8,.ptr 1 0),(12,.ptr 3 0)],[.cells [.p (.sl none 1 (List.map rowI a1.Ranks))],.cells [.p (iv 0),.own 2 []],.cells [.p (iv x2.Sym),.p (.sl none 1 (List.map rowI x2.From)),.p (iv x2.To)],.cells [.p (iv x2.Sym),.own 2 (List.map row_Tree s3)]],[],none,false⟩) h rfl rfl (fun _ _=>rfl) ?_ ?_ ?_
     ·intro s3 h
      try dsimp only at h ⊢
      simp only [go_sem,hw2,hR2,hE2]
      injection h with h; subst h
      exact Sat.ok hQ
     ·intro K3 s3 hb3 he3
      try dsimp only
      conv=>arg 1; arg 7; unfold L53_2 loopAt S22.c53 Try.f53; simp only [loopIn,Option.getD_some,if_true]
      simp only [go_sem,he3]
      exact hb3
     ·intro K3 k3 i3 x3 s3 n3 hR3 hE3 hb3 hx3 hi3 hw3 ih3 h
      try dsimp only at h ⊢
      conv=>arg 1; arg 7; unfold L53_2 loopAt S22.c53 Try.f53; simp only [loopIn,Option.getD_some,if_true]
      obtain ⟨v5,e_v5,h⟩:=ob h
      obtain ⟨e_v5a,e_v5b⟩:=idx_some e_v5
      obtain ⟨v6,e_v6,h⟩:=ob h
      obtain ⟨v7,e_v7,h⟩:=ob h
      have e_v7c:=ih a0 a1 v6 x3 v7 e_v7
      by_cases c3:v7.2 = 0
      ·have h:=iteT h c3
       have c3b:(v7.2 != 0) = false:=bneF c3
       obtain ⟨v8,e_v8,h⟩:=ob h
       have e_v8a:boundOk (s3.length + 1) 32 = true:=bnd_of (by have:=(app_some e_v8).1; simpa using this) (by decide)
       have e_v8b:(List.map row_Tree s3) ++ [[iv v7.1.Sym,.sl none 2 (List.map row_Tree v7.1.Kids)]] = List.map row_Tree v8:=by rw [(app_some e_v8).2]; simp [row_Tree_eq]
       simp only [go_sem,hx3,hi3,hw3,e_v5a,e_v5b,e_v6,e_v7c,c3b,e_v8a,e_v8b,hw2,hR2,hE2,hR3,hE3]
       exact ih3 v8 h
      ·have h:=iteF h c3
       have c3b:(v7.2 != 0) = true:=bneT c3
       simp only [go_sem,hx3,hi3,hw3,e_v5a,e_v5b,e_v6,e_v7c,c3b,hw2,hR2,hE2,hR3,hE3]
       injection h with h; subst h
       exact Sat.ok hQ
    ·have h:=iteF h c2
     have c2b:(v2 != v4) = true:=bneT c2
     simp only [go_sem,hx2,hi2,hw2,c1b,e_v2c,e_v3a,e_v3b,e_v4a,e_v4b,c2b,hR2,hE2]
     exact ih2 () h
   ·have h:=iteF h c1
    have c1b:(x2.To != a3) = true:=bneT c1
    simp only [go_sem,hx2,hi2,hw2,c1b,hR2,hE2]
    exact ih2 () h
def repair_Fix (n:Nat) (a0:Alphabet) (a1:Automaton) (a2:Tree) (a3:repair_Weights):Option (Tree×Int) :=
 (repair_checked n a0 a1 a2 a3).bind fun v1 =>
 if v1.2.2.2 = 0 then
  (v1.1).bind fun v2 =>
  (repair_table_build_pxxx n v2 a0 (w64 ((v2.cost.length:Int) - 1)) v1.2.1).bind fun v3 =>
  if v3.2 = 0 then
   (tree_Size n v3.1).bind fun v4 =>
   if 300 < v4 then
    some ((Tree.mk 0 ([]:List Tree)),3)
   else
    some (v3.1,0)
  else
   some ((Tree.mk 0 ([]:List Tree)),3)
 else
  some ((Tree.mk 0 ([]:List Tree)),v1.2.2.2)
theorem spec21 (n:Nat) (a0:Alphabet) (a1:Automaton) (a2:Tree) (a3:repair_Weights) (r:Tree×Int) (h:repair_Fix n a0 a1 a2 a3 = some r) :
 call Try.prog T H (.fn 21) [.p (.agg [.sl none 1 (List.map rowI a0.Ranks)]),.p (.agg [iv a1.States,.sl none 1 (List.map rowI a1.Final),.sl none 3 (List.map row_Rule a1.Rules)]),.p (.agg [iv a2.Sym,.sl none 2 (List.map row_Tree a2.Kids)]),.p (.agg [iv a3.Relabel,iv a3.Remove,iv a3.Insert])] [] = some (.ret (.p (.tup [.agg [iv r.1.Sym,.sl none 2 (List.map row_Tree r.1.Kids)],iv r.2])),[]):=by
 refine Sat.fn fun Q hQ=>?_
 unfold repair_Fix at h
 rw [call21]
 conv=>arg 1; arg 7; unfold S22.c21 Try.f21; simp only [Option.getD_some]
 obtain ⟨v1,e_v1,h⟩:=ob h
 have e_v1c:=spec52 n a0 a1 a2 a3 v1 e_v1
 by_cases c1:v1.2.2.2 = 0
 ·have h:=iteT h c1
  have c1b:(v1.2.2.2 != 0) = false:=bneF c1
  obtain ⟨v2,e_v2,h⟩:=ob h
  obtain ⟨v3,e_v3,h⟩:=ob h
  have e_v3c:call Try.prog T H (.fn 53) [.p (.pp [iv v2.a.States,.sl none 1 (List.map rowI v2.a.Final),.sl none 3 (List.map row_Rule v2.a.Rules),iv v2.w.Relabel,iv v2.w.Remove,iv v2.w.Insert,.sl none 1 (List.map rowI v2.size),.sl none 1 (List.map (rowL 1 rowI) v2.cost),.sl none 1 (List.map (rowL 1 rowI) v2.kids),.sl none 2 (List.map row_Tree v2.tree)]),.p (.agg [.sl none 1 (List.map rowI a0.Ranks)]),.p (iv (w64 ((v2.cost.length:Int) - 1))),.p (iv v1.2.1)] [] = some (.ret (.p (.tup [.agg [iv v3.1.Sym,.sl none 2 (List.map row_Tree v3.1.Kids)],iv v3.2])),[]):=spec53_pxxx n v2 a0 (w64 ((v2.cost.length:Int) - 1)) v1.2.1 v3 e_v3
  by_cases c2:v3.2 = 0
  ·have h:=iteT h c2
   have c2b:(v3.2 != 0) = false:=bneF c2
   obtain ⟨v4,e_v4,h⟩:=ob h
   have e_v4c:=spec38 n v3.1 v4 e_v4
   by_cases c3:300 < v4
   ·have h:=iteT h c3
    simp only [go_sem,e_v1c,c1b,e_v2,e_v3c,c2b,e_v4c,c3]
    injection h with h; subst h
    exact Sat.ok hQ
   ·have h:=iteF h c3
    simp only [go_sem,e_v1c,c1b,e_v2,e_v3c,c2b,e_v4c,c3]
    injection h with h; subst h
    exact Sat.ok hQ
  ·have h:=iteF h c2
   have c2b:(v3.2 != 0) = true:=bneT c2
   simp only [go_sem,e_v1c,c1b,e_v2,e_v3c,c2b]
   injection h with h; subst h
   exact Sat.ok hQ
 ·have h:=iteF h c1
  have c1b:(v1.2.2.2 != 0) = true:=bneT c1
  simp only [go_sem,e_v1c,c1b]
  injection h with h; subst h
  exact Sat.ok hQ
def ref03_Reached (n:Nat) (a0:Automaton):Option (List Bool) :=
 (mkz 1 a0.States a0.States false).bind fun v1 =>
 whileL n (true,v1) (fun k9 (s9:Bool×(List Bool)) n9 =>
  if s9.1 = true then
   rangeL a0.Rules (false,s9.2) (fun k12 i12 x12 (s12:Bool×(List Bool)) n12 =>
    rangeL x12.From true (fun k13 i13 x13 (s13:Bool) n13 =>
     if s13 = true then
      (idxM ((a0.States).toNat) s12.2 x13).bind fun v4 =>
      n13 v4
     else
      n13 false) fun s13 =>
    if s13 = true then
     (idxM ((a0.States).toNat) s12.2 x12.To).bind fun v3 =>
     if v3 = true then
      n12 (s12.1,s12.2)
     else
      n12 (true,(List.set s12.2 ((x12.To).toNat) true))
    else
     n12 (s12.1,s12.2)) fun s12 =>
   n9 (s12.1,s12.2)
  else
   k9 (false,s9.2)) fun s9 =>
 (tkM ((a0.States).toNat) s9.2).bind fun v2 =>
 some v2
theorem spec85 (n:Nat) (a0:Automaton) (r:List Bool) (h:ref03_Reached n a0 = some r) :
 call Try.prog T H (.fn 85) [.p (.agg [iv a0.States,.sl none 1 (List.map rowI a0.Final),.sl none 3 (List.map row_Rule a0.Rules)])] [] = some (.ret (.p (.sl none 1 (List.map rowB r))),[]):=by
 refine Sat.fn fun Q hQ=>?_
 unfold ref03_Reached at h
 rw [call85]
 conv=>arg 1; arg 7; unfold S22.c85 Try.f85; simp only [Option.getD_some]
 obtain ⟨v1,e_v1,h⟩:=ob h
 obtain ⟨e_v11,e_v12,e_v13,e_v14⟩:=mkz_some e_v1
 have e_v1b:boundOk (a0.States).toNat 1 = true:=bnd_of e_v13 (by decide)
 have e_v1r:List.replicate (a0.States).toNat [AV.p (bv false)] = List.map (rowA rowB) v1:=by rw [e_v14]; exact rep_map (by first | rfl | simp only [go_sem,List.map_nil])
 simp only [go_sem,e_v11,e_v12,e_v1b,e_v1r]
 refine run_whileL (c:=L85_0) (live:=[1,3,4]) (by simp only [go_sem]) (M:=fun (s9:Bool×(List Bool))=>[(1,.ptr 0 0),(3,.ms 1 0 1 0 ((a0.States).toNat)),(4,.p (bv s9.1))]) (Z:=fun (s9:Bool×(List Bool))=>[.cells [.p (iv a0.States),.p (.sl none 1 (List.map rowI a0.Final)),.p (.sl none 3 (List.map row_Rule a0.Rules))],.arr 0 1 (List.map (rowA rowB) s9.2)]) (N:=fun (s9:Bool×(List Bool))=>⟨[(3,.ms 1 0 1 0 ((a0.States).toNat))],[.cells [.p (iv a0.States),.p (.sl none 1 (List.map rowI a0.Final)),.p (.sl none 3 (List.map row_Rule a0.Rules))],.arr 0 1 (List.map (rowA rowB) s9.2)],[],none,false⟩) h rfl rfl (fun _=>rfl) ?_ ?_
 ·intro s9 h
  try dsimp only at h ⊢
  obtain ⟨v2,e_v2,h⟩:=ob h
  have e_v2a:=(tkM_some e_v2).1
  have e_v2b:=(tkM_some e_v2).2
  simp only [go_sem,e_v2a,e_v2b]
  injection h with h; subst h
  exact Sat.ok hQ
 ·intro K9 k9 s9 n9 hR9 hE9 hb9 ih9 h
  try dsimp only at h ⊢
  conv=>arg 1; arg 7; unfold L85_0 loopAt S22.c85 Try.f85; simp only [loopIn,Option.getD_some,if_true]
  by_cases c1:s9.1 = true
  ·have h:=iteT h c1
   simp only [go_sem,c1,hR9,hE9]
   refine run_rangeL (c:=L85_2) (live:=[1,3,4,15,16,17]) (by simp only [go_sem]) (M:=fun i12 (s12:Bool×(List Bool))=>[(1,.ptr 0 0),(3,.ms 1 0 1 0 ((a0.States).toNat)),(4,.p (bv s12.1)),(15,.p (.sl none 3 (List.map row_Rule a0.Rules))),(16,.p (iv (a0.Rules.length:Int))),(17,.p (iv (i12:Int)))]) (Z:=fun i12 (s12:Bool×(List Bool))=>[.cells [.p (iv a0.States),.p (.sl none 1 (List.map rowI a0.Final)),.p (.sl none 3 (List.map row_Rule a0.Rules))],.arr 0 1 (List.map (rowA rowB) s12.2)]) (N:=fun (s12:Bool×(List Bool))=>⟨[(1,.ptr 0 0),(3,.ms 1 0 1 0 ((a0.States).toNat)),(4,.p (bv s12.1))],[.cells [.p (iv a0.States),.p (.sl none 1 (List.map rowI a0.Final)),.p (.sl none 3 (List.map row_Rule a0.Rules))],.arr 0 1 (List.map (rowA rowB) s12.2)],[],none,false⟩) h rfl rfl (fun _ _=>rfl) ?_ ?_ ?_
   ·intro s12 h
    try dsimp only at h ⊢
    simp only [go_sem,hR9,hE9]
    exact ih9 (s12.1,s12.2) h
   ·intro K12 s12 hb12 he12
    try dsimp only
    conv=>arg 1; arg 7; unfold L85_2 loopAt S22.c85 Try.f85; simp only [loopIn,Option.getD_some,if_true]
    simp only [go_sem,he12]
    exact hb12
   ·intro K12 k12 i12 x12 s12 n12 hR12 hE12 hb12 hx12 hi12 hw12 ih12 h
    try dsimp only at h ⊢
    conv=>arg 1; arg 7; unfold L85_2 loopAt S22.c85 Try.f85; simp only [loopIn,Option.getD_some,if_true]
    simp only [go_sem,hx12,hi12,hw12,hR9,hE9,hR12,hE12]
    refine run_rangeL (c:=L85_4) (live:=[1,3,4,6,7,15,16,17,22,23,24]) (by simp only [go_sem]) (M:=fun i13 (s13:Bool)=>[(1,.ptr 0 0),(3,.ms 1 0 1 0 ((a0.States).toNat)),(4,.p (bv s12.1)),(6,.ptr 2 0),(7,.p (bv s13)),(15,.p (.sl none 3 (List.map row_Rule a0.Rules))),(16,.p (iv (a0.Rules.length:Int))),(17,.p (iv (i12:Int))),(22,.p (.sl none 1 (List.map rowI x12.From))),(23,.p (iv (x12.From.length:Int))),(24,.p (iv (i13:Int)))]) (Z:=fun i13 (s13:Bool)=>[.cells [.p (iv a0.States),.p (.sl none 1 (List.map rowI a0.Final)),.p (.sl none 3 (List.map row_Rule a0.Rules))],.arr 0 1 (List.map (rowA rowB) s12.2),.cells [.p (iv x12.Sym),.p (.sl none 1 (List.map rowI x12.From)),.p (iv x12.To)]]) (N:=fun (s13:Bool)=>⟨[(1,.ptr 0 0),(3,.ms 1 0 1 0 ((a0.States).toNat)),(4,.p (bv s12.1)),(6,.ptr 2 0),(7,.p (bv s13)),(15,.p (.sl none 3 (List.map row_Rule a0.Rules))),(16,.p (iv (a0.Rules.length:Int))),(17,.p (iv (i12:Int)))],[.cells [.p (iv a0.States),.p (.sl none 1 (List.map rowI a0.Final)),.p (.sl none 3 (List.map row_Rule a0.Rules))],.arr 0 1 (List.map (rowA rowB) s12.2),.cells [.p (iv x12.Sym),.p (.sl none 1 (List.map rowI x12.From)),.p (iv x12.To)]],[],none,false⟩) h rfl rfl (fun _ _=>rfl) ?_ ?_ ?_
    ·intro s13 h
     try dsimp only at h ⊢
     by_cases c2:s13 = true
     ·have h:=iteT h c2
      obtain ⟨v3,e_v3,h⟩:=ob h
      obtain ⟨e_v3a,e_v3b,e_v3d⟩:=idxM_some e_v3
      by_cases c3:v3 = true
      ·have h:=iteT h c3
       simp only [go_sem,c2,e_v3a,e_v3b,e_v3d,c3,hR9,hE9,hw12,hR12,hE12]
       exact ih12 (s12.1,s12.2) h
      ·have h:=iteF h c3
       have c3:=eq_false_of_ne_true c3
       have e_y1:List.set (List.map (rowA rowB) s12.2) ((x12.To).toNat) [.p (bv true)] = List.map (rowA rowB) (List.set s12.2 ((x12.To).toNat) true):=map_set' (by first | rfl | simp only [go_sem,List.map_cons,List.map_nil])
       simp only [go_sem,c2,e_v3a,e_v3b,e_v3d,c3,e_y1,hR9,hE9,hw12,hR12,hE12]
       exact ih12 (true,(List.set s12.2 ((x12.To).toNat) true)) h
     ·have h:=iteF h c2
      have c2:=eq_false_of_ne_true c2
      simp only [go_sem,c2,hR9,hE9,hw12,hR12,hE12]
      exact ih12 (s12.1,s12.2) h
    ·intro K13 s13 hb13 he13
     try dsimp only
     conv=>arg 1; arg 7; unfold L85_4 loopAt S22.c85 Try.f85; simp only [loopIn,Option.getD_some,if_true]
     simp only [go_sem,he13]
     exact hb13
    ·intro K13 k13 i13 x13 s13 n13 hR13 hE13 hb13 hx13 hi13 hw13 ih13 h
     try dsimp only at h ⊢
     conv=>arg 1; arg 7; unfold L85_4 loopAt S22.c85 Try.f85; simp only [loopIn,Option.getD_some,if_true]
     by_cases c4:s13 = true
     ·have h:=iteT h c4
      obtain ⟨v4,e_v4,h⟩:=ob h
      obtain ⟨e_v4a,e_v4b,e_v4d⟩:=idxM_some e_v4
      simp only [go_sem,hx13,hi13,hw13,c4,e_v4a,e_v4b,e_v4d,hR9,hE9,hw12,hR12,hE12,hR13,hE13]
      exact ih13 v4 h
     ·have h:=iteF h c4
      have c4:=eq_false_of_ne_true c4
      simp only [go_sem,hx13,hi13,hw13,c4,hR9,hE9,hw12,hR12,hE12,hR13,hE13]
      exact ih13 false h
  ·have h:=iteF h c1
   have c1:=eq_false_of_ne_true c1
   simp only [go_sem,c1,hR9,hE9]
   exact hb9 (false,s9.2) h
def ref06_None (n:Nat) (a0:Automaton):Option Bool :=
 (ref03_Reached n a0).bind fun v1 =>
 rangeL a0.Final () (fun k1 i1 x1 (s1:Unit) n1 =>
  (idx v1 x1).bind fun v2 =>
  if v2 = true then
   some false
  else
   n1 ()) fun s1 =>
 some true
theorem spec54 (n:Nat) (a0:Automaton) (r:Bool) (h:ref06_None n a0 = some r) :
 call Try.prog T H (.fn 54) [.p (.agg [iv a0.States,.sl none 1 (List.map rowI a0.Final),.sl none 3 (List.map row_Rule a0.Rules)])] [] = some (.ret (.p (bv r)),[]):=by
 refine Sat.fn fun Q hQ=>?_
 unfold ref06_None at h
 rw [call54]
 conv=>arg 1; arg 7; unfold S22.c54 Try.f54; simp only [Option.getD_some]
 obtain ⟨v1,e_v1,h⟩:=ob h
 have e_v1c:=spec85 n a0 v1 e_v1
 simp only [go_sem,e_v1c]
 refine run_rangeL (c:=L54_0) (live:=[3,9,10,11]) (by simp only [go_sem]) (M:=fun i1 (s1:Unit)=>[(3,.p (.sl none 1 (List.map rowB v1))),(9,.p (.sl none 1 (List.map rowI a0.Final))),(10,.p (iv (a0.Final.length:Int))),(11,.p (iv (i1:Int)))]) (Z:=fun i1 (s1:Unit)=>[.cells [.p (iv a0.States),.p (.sl none 1 (List.map rowI a0.Final)),.p (.sl none 3 (List.map row_Rule a0.Rules))]]) (N:=fun (s1:Unit)=>⟨[],[.cells [.p (iv a0.States),.p (.sl none 1 (List.map rowI a0.Final)),.p (.sl none 3 (List.map row_Rule a0.Rules))]],[],none,false⟩) h rfl rfl (fun _ _=>rfl) ?_ ?_ ?_
 ·intro s1 h
  try dsimp only at h ⊢
  simp only [go_sem]
  injection h with h; subst h
  exact Sat.ok hQ
 ·intro K1 s1 hb1 he1
  try dsimp only
  conv=>arg 1; arg 7; unfold L54_0 loopAt S22.c54 Try.f54; simp only [loopIn,Option.getD_some,if_true]
  simp only [go_sem,he1]
  exact hb1
 ·intro K1 k1 i1 x1 s1 n1 hR1 hE1 hb1 hx1 hi1 hw1 ih1 h
  try dsimp only at h ⊢
  conv=>arg 1; arg 7; unfold L54_0 loopAt S22.c54 Try.f54; simp only [loopIn,Option.getD_some,if_true]
  obtain ⟨v2,e_v2,h⟩:=ob h
  obtain ⟨e_v2a,e_v2b⟩:=idx_some e_v2
  by_cases c1:v2 = true
  ·have h:=iteT h c1
   simp only [go_sem,hx1,hi1,hw1,e_v2a,e_v2b,c1,hR1,hE1]
   injection h with h; subst h
   exact Sat.ok hQ
  ·have h:=iteF h c1
   have c1:=eq_false_of_ne_true c1
   simp only [go_sem,hx1,hi1,hw1,e_v2a,e_v2b,c1,hR1,hE1]
   exact ih1 () h
def ref22_add (a0:Int) (a1:Int):Option Int :=
 some (minI (w64 (a0 + a1)) 4503599627370496)
theorem spec86 (a0:Int) (a1:Int) (r:Int) (h:ref22_add a0 a1 = some r) :
 call Try.prog T H (.fn 86) [.p (iv a0),.p (iv a1)] [] = some (.ret (.p (iv r)),[]):=by
 refine Sat.fn fun Q hQ=>?_
 unfold ref22_add at h
 rw [call86]
 conv=>arg 1; arg 7; unfold S22.c86 Try.f86; simp only [Option.getD_some]
 simp only [go_sem]
 injection h with h; subst h
 exact Sat.ok hQ
def ref22_times (a0:Int) (a1:Int):Option Int :=
 some (w64 (a0 * (minI a1 2199023255552)))
theorem spec87 (a0:Int) (a1:Int) (r:Int) (h:ref22_times a0 a1 = some r) :
 call Try.prog T H (.fn 87) [.p (iv a0),.p (iv a1)] [] = some (.ret (.p (iv r)),[]):=by
 refine Sat.fn fun Q hQ=>?_
 unfold ref22_times at h
 rw [call87]
 conv=>arg 1; arg 7; unfold S22.c87 Try.f87; simp only [Option.getD_some]
 simp only [go_sem]
 injection h with h; subst h
 exact Sat.ok hQ
def ref22_costs:Nat→Automaton→(List Int)→Tree→ref22_Weights→Option (List Int)
 | 0,_,_,_,_=>none
 | n + 1,a0,a1,a2,a3 =>
  rangeL a2.Kids ([]:List (List Int)) (fun k1 i1 x1 (s1:(List (List Int))) n1 =>
   (ref22_costs n a0 a1 x1 a3).bind fun v18 =>
   (app 24 s1 [v18]).bind fun v19 =>
   n1 v19) fun s1 =>
  (mkz 8 a0.States a0.States 0).bind fun v1 =>
  rangeI ((a0.States).toNat:Int) v1 (fun k2 i2 (s2:(List Int)) n2 =>
   (idxM ((a0.States).toNat) s2 (i2:Int)).bind fun v11 =>
   (a1[i2]?).bind fun v12 =>
   if 0 < v12 then
    (ref01_Size n a2).bind fun v13 =>
    (ref22_times a3.Remove v13).bind fun v14 =>
    (ref22_times a3.Insert v12).bind fun v15 =>
    (ref22_add v14 v15).bind fun v16 =>
    (idxM ((a0.States).toNat) (List.set s2 i2 4503599627370496) (i2:Int)).bind fun v17 =>
    n2 (List.set (List.set s2 i2 4503599627370496) i2 v16)
   else
    n2 (List.set s2 i2 4503599627370496)) fun s2 =>
  rangeL a0.Rules s2 (fun k7 i7 x7 (s7:(List Int)) n7 =>
   if (x7.From.length:Int) = (a2.Kids.length:Int) then
    if x7.Sym = a2.Sym then
     rangeL x7.From 0 (fun k8 i8 x8 (s8:Int) n8 =>
      (s1[i8]?).bind fun v4 =>
      (idx v4 x8).bind fun v5 =>
      (ref22_add s8 v5).bind fun v6 =>
      n8 v6) fun s8 =>
     (idxM ((a0.States).toNat) s7 x7.To).bind fun v3 =>
     n7 (List.set s7 ((x7.To).toNat) (minI v3 s8))
    else
     if a3.Relabel < 0 then
      n7 s7
     else
      rangeL x7.From a3.Relabel (fun k9 i9 x9 (s9:Int) n9 =>
       (s1[i9]?).bind fun v8 =>
       (idx v8 x9).bind fun v9 =>
       (ref22_add s9 v9).bind fun v10 =>
       n9 v10) fun s9 =>
      (idxM ((a0.States).toNat) s7 x7.To).bind fun v7 =>
      n7 (List.set s7 ((x7.To).toNat) (minI v7 s9))
   else
    n7 s7) fun s7 =>
  (tkM ((a0.States).toNat) s7).bind fun v2 =>
  some v2
theorem spec55:∀ (n:Nat),(∀ (a0:Automaton) (a1:List Int) (a2:Tree) (a3:ref22_Weights) (r:List Int),ref22_costs n a0 a1 a2 a3 = some r →
 call Try.prog T H (.fn 55) [.p (.agg [iv a0.States,.sl none 1 (List.map rowI a0.Final),.sl none 3 (List.map row_Rule a0.Rules)]),.p (.sl none 1 (List.map rowI a1)),.p (.agg [iv a2.Sym,.sl none 2 (List.map row_Tree a2.Kids)]),.p (.agg [iv a3.Relabel,iv a3.Remove,iv a3.Insert])] [] = some (.ret (.p (.sl none 1 (List.map rowI r))),[])):=by
 intro n
 induction n with
 | zero=>intro a0 a1 a2 a3 r h; cases h
 | succ n ih =>
  intro a0 a1 a2 a3 r h
  refine Sat.fn fun Q hQ=>?_
  rw [ref22_costs] at h
  rw [call55]
  conv=>arg 1; arg 7; unfold S22.c55 Try.f55; simp only [Option.getD_some]
  simp only [go_sem]
  refine run_rangeL (c:=L55_0) (live:=[1,4,6,7,9,20,21,22]) (by simp only [go_sem]) (M:=fun i1 (s1:(List (List Int)))=>[(1,.p (.sl none 1 (List.map rowI a1))),(4,.ptr 0 0),(6,.ptr 1 0),(7,.ptr 2 0),(9,.own 1 (List.map (rowL 1 rowI) s1)),(20,.p (.sl none 2 (List.map row_Tree a2.Kids))),(21,.p (iv (a2.Kids.length:Int))),(22,.p (iv (i1:Int)))]) (Z:=fun i1 (s1:(List (List Int)))=>[.cells [.p (iv a0.States),.p (.sl none 1 (List.map rowI a0.Final)),.p (.sl none 3 (List.map row_Rule a0.Rules))],.cells [.p (iv a2.Sym),.p (.sl none 2 (List.map row_Tree a2.Kids))],.cells [.p (iv a3.Relabel),.p (iv a3.Remove),.p (iv a3.Insert)]]) (N:=fun (s1:(List (List Int)))=>⟨[(1,.p (.sl none 1 (List.map rowI a1))),(4,.ptr 0 0),(6,.ptr 1 0),(7,.ptr 2 0),(9,.own 1 (List.map (rowL 1 rowI) s1))],[.cells [.p (iv a0.States),.p (.sl none 1 (List.map rowI a0.Final)),.p (.sl none 3 (List.map row_Rule a0.Rules))],.cells [.p (iv a2.Sym),.p (.sl none 2 (List.map row_Tree a2.Kids))],.cells [.p (iv a3.Relabel),.p (iv a3.Remove),.p (iv a3.Insert)]],[],none,false⟩) h rfl rfl (fun _ _=>rfl) ?_ ?_ ?_
  ·intro s1 h
   try dsimp only at h ⊢
   obtain ⟨v1,e_v1,h⟩:=ob h
   obtain ⟨e_v11,e_v12,e_v13,e_v14⟩:=mkz_some e_v1
   have e_v1b:boundOk (a0.States).toNat 8 = true:=bnd_of e_v13 (by decide)
   have e_v1r:List.replicate (a0.States).toNat [AV.p (iv 0)] = List.map (rowA rowI) v1:=by rw [e_v14]; exact rep_map (by first | rfl | simp only [go_sem,List.map_nil])
   simp only [go_sem,e_v11,e_v12,e_v1b,e_v1r]
   refine run_rangeI (c:=L55_2) (live:=[1,4,6,7,9,12,39,40]) (by simp only [go_sem]) (M:=fun i2 (s2:(List Int))=>[(1,.p (.sl none 1 (List.map rowI a1))),(4,.ptr 0 0),(6,.ptr 1 0),(7,.ptr 2 0),(9,.own 1 (List.map (rowL 1 rowI) s1)),(12,.ms 3 0 1 0 ((a0.States).toNat)),(39,.p (iv ((a0.States).toNat:Int))),(40,.p (iv (i2:Int)))]) (Z:=fun i2 (s2:(List Int))=>[.cells [.p (iv a0.States),.p (.sl none 1 (List.map rowI a0.Final)),.p (.sl none 3 (List.map row_Rule a0.Rules))],.cells [.p (iv a2.Sym),.p (.sl none 2 (List.map row_Tree a2.Kids))],.cells [.p (iv a3.Relabel),.p (iv a3.Remove),.p (iv a3.Insert)],.arr 0 1 (List.map (rowA rowI) s2)]) (N:=fun (s2:(List Int))=>⟨[(4,.ptr 0 0),(6,.ptr 1 0),(7,.ptr 2 0),(9,.own 1 (List.map (rowL 1 rowI) s1)),(12,.ms 3 0 1 0 ((a0.States).toNat))],[.cells [.p (iv a0.States),.p (.sl none 1 (List.map rowI a0.Final)),.p (.sl none 3 (List.map row_Rule a0.Rules))],.cells [.p (iv a2.Sym),.p (.sl none 2 (List.map row_Tree a2.Kids))],.cells [.p (iv a3.Relabel),.p (iv a3.Remove),.p (iv a3.Insert)],.arr 0 1 (List.map (rowA rowI) s2)],[],none,false⟩) h rfl rfl (fun _ _=>rfl) ?_ ?_ ?_
   ·intro s2 h
    try dsimp only at h ⊢
    simp only [go_sem]
    refine run_rangeL (c:=L55_4) (live:=[6,7,9,12,69,70,71]) (by simp only [go_sem]) (M:=fun i7 (s7:(List Int))=>[(6,.ptr 1 0),(7,.ptr 2 0),(9,.own 1 (List.map (rowL 1 rowI) s1)),(12,.ms 3 0 1 0 ((a0.States).toNat)),(69,.p (.sl none 3 (List.map row_Rule a0.Rules))),(70,.p (iv (a0.Rules.length:Int))),(71,.p (iv (i7:Int)))]) (Z:=fun i7 (s7:(List Int))=>[.cells [.p (iv a0.States),.p (.sl none 1 (List.map rowI a0.Final)),.p (.sl none 3 (List.map row_Rule a0.Rules))],.cells [.p (iv a2.Sym),.p (.sl none 2 (List.map row_Tree a2.Kids))],.cells [.p (iv a3.Relabel),.p (iv a3.Remove),.p (iv a3.Insert)],.arr 0 1 (List.map (rowA rowI) s7)]) (N:=fun (s7:(List Int))=>⟨[(12,.ms 3 0 1 0 ((a0.States).toNat))],[.cells [.p (iv a0.States),.p (.sl none 1 (List.map rowI a0.Final)),.p (.sl none 3 (List.map row_Rule a0.Rules))],.cells [.p (iv a2.Sym),.p (.sl none 2 (List.map row_Tree a2.Kids))],.cells [.p (iv a3.Relabel),.p (iv a3.Remove),.p (iv a3.Insert)],.arr 0 1 (List.map (rowA rowI) s7)],[],none,false⟩) h rfl rfl (fun _ _=>rfl) ?_ ?_ ?_
    ·intro s7 h
     try dsimp only at h ⊢
     obtain ⟨v2,e_v2,h⟩:=ob h
     have e_v2a:=(tkM_some e_v2).1
     have e_v2b:=(tkM_some e_v2).2
     simp only [go_sem,e_v2a,e_v2b]
     injection h with h; subst h
     exact Sat.ok hQ
    ·intro K7 s7 hb7 he7
     try dsimp only
     conv=>arg 1; arg 7; unfold L55_4 loopAt S22.c55 Try.f55; simp only [loopIn,Option.getD_some,if_true]
     simp only [go_sem,he7]
     exact hb7
    ·intro K7 k7 i7 x7 s7 n7 hR7 hE7 hb7 hx7 hi7 hw7 ih7 h
     try dsimp only at h ⊢
     conv=>arg 1; arg 7; unfold L55_4 loopAt S22.c55 Try.f55; simp only [loopIn,Option.getD_some,if_true]
     by_cases c1:(x7.From.length:Int) = (a2.Kids.length:Int)
     ·have h:=iteT h c1
      have c1b:((x7.From.length:Int) != (a2.Kids.length:Int)) = false:=bneF c1
      by_cases c2:x7.Sym = a2.Sym
      ·have h:=iteT h c2
       have c2b:(x7.Sym != a2.Sym) = false:=bneF c2
       simp only [go_sem,hx7,hi7,hw7,c1b,c2b,hR7,hE7]
       refine run_rangeL (c:=L55_6) (live:=[6,7,9,12,15,16,69,70,71,102,103,104]) (by simp only [go_sem]) (M:=fun i8 (s8:Int)=>[(6,.ptr 1 0),(7,.ptr 2 0),(9,.own 1 (List.map (rowL 1 rowI) s1)),(12,.ms 3 0 1 0 ((a0.States).toNat)),(15,.ptr 4 0),(16,.p (iv s8)),(69,.p (.sl none 3 (List.map row_Rule a0.Rules))),(70,.p (iv (a0.Rules.length:Int))),(71,.p (iv (i7:Int))),(102,.p (.sl none 1 (List.map rowI x7.From))),(103,.p (iv (x7.From.length:Int))),(104,.p (iv (i8:Int)))]) (Z:=fun i8 (s8:Int)=>[.cells [.p (iv a0.States),.p (.sl none 1 (List.map rowI a0.Final)),.p (.sl none 3 (List.map row_Rule a0.Rules))],.cells [.p (iv a2.Sym),.p (.sl none 2 (List.map row_Tree a2.Kids))],.cells [.p (iv a3.Relabel),.p (iv a3.Remove),.p (iv a3.Insert)],.arr 0 1 (List.map (rowA rowI) s7),.cells [.p (iv x7.Sym),.p (.sl none 1 (List.map rowI x7.From)),.p (iv x7.To)]]) (N:=fun (s8:Int)=>⟨[(6,.ptr 1 0),(7,.ptr 2 0),(9,.own 1 (List.map (rowL 1 rowI) s1)),(12,.ms 3 0 1 0 ((a0.States).toNat)),(15,.ptr 4 0),(16,.p (iv s8)),(69,.p (.sl none 3 (List.map row_Rule a0.Rules))),(70,.p (iv (a0.Rules.length:Int))),(71,.p (iv (i7:Int)))],[.cells [.p (iv a0.States),.p (.sl none 1 (List.map rowI a0.Final)),.p (.sl none 3 (List.map row_Rule a0.Rules))],.cells [.p (iv a2.Sym),.p (.sl none 2 (List.map row_Tree a2.Kids))],.cells [.p (iv a3.Relabel),.p (iv a3.Remove),.p (iv a3.Insert)],.arr 0 1 (List.map (rowA rowI) s7),.cells [.p (iv x7.Sym),.p (.sl none 1 (List.map rowI x7.From)),.p (iv x7.To)]],[],none,false⟩) h rfl rfl (fun _ _=>rfl) ?_ ?_ ?_
       ·intro s8 h
        try dsimp only at h ⊢
        obtain ⟨v3,e_v3,h⟩:=ob h
        obtain ⟨e_v3a,e_v3b,e_v3d⟩:=idxM_some e_v3
        have e_y1:List.set (List.map (rowA rowI) s7) ((x7.To).toNat) [.p (iv (minI v3 s8))] = List.map (rowA rowI) (List.set s7 ((x7.To).toNat) (minI v3 s8)):=map_set' (by first | rfl | simp only [go_sem,List.map_cons,List.map_nil])
        simp only [go_sem,e_v3a,e_v3b,e_v3d,e_y1,hw7,hR7,hE7]
        exact ih7 (List.set s7 ((x7.To).toNat) (minI v3 s8)) h
       ·intro K8 s8 hb8 he8
        try dsimp only
        conv=>arg 1; arg 7; unfold L55_6 loopAt S22.c55 Try.f55; simp only [loopIn,Option.getD_some,if_true]
        simp only [go_sem,he8]
        exact hb8
       ·intro K8 k8 i8 x8 s8 n8 hR8 hE8 hb8 hx8 hi8 hw8 ih8 h
        try dsimp only at h ⊢
        conv=>arg 1; arg 7; unfold L55_6 loopAt S22.c55 Try.f55; simp only [loopIn,Option.getD_some,if_true]
        obtain ⟨v4,e_v4,h⟩:=ob h
        obtain ⟨v5,e_v5,h⟩:=ob h
        obtain ⟨e_v5a,e_v5b⟩:=idx_some e_v5
        obtain ⟨v6,e_v6,h⟩:=ob h
        have e_v6c:=spec86 s8 v5 v6 e_v6
        simp only [go_sem,hx8,hi8,hw8,e_v4,e_v5a,e_v5b,e_v6c,hw7,hR7,hE7,hR8,hE8]
        exact ih8 v6 h
      ·have h:=iteF h c2
       have c2b:(x7.Sym != a2.Sym) = true:=bneT c2
       by_cases c3:a3.Relabel < 0
       ·have h:=iteT h c3
        simp only [go_sem,hx7,hi7,hw7,c1b,c2b,c3,hR7,hE7]
        exact ih7 s7 h
       ·have h:=iteF h c3
        simp only [go_sem,hx7,hi7,hw7,c1b,c2b,c3,hR7,hE7]
        refine run_rangeL (c:=L55_6) (live:=[6,7,9,12,15,16,69,70,71,102,103,104]) (by simp only [go_sem]) (M:=fun i9 (s9:Int)=>[(6,.ptr 1 0),(7,.ptr 2 0),(9,.own 1 (List.map (rowL 1 rowI) s1)),(12,.ms 3 0 1 0 ((a0.States).toNat)),(15,.ptr 4 0),(16,.p (iv s9)),(69,.p (.sl none 3 (List.map row_Rule a0.Rules))),(70,.p (iv (a0.Rules.length:Int))),(71,.p (iv (i7:Int))),(102,.p (.sl none 1 (List.map rowI x7.From))),(103,.p (iv (x7.From.length:Int))),(104,.p (iv (i9:Int)))]) (Z:=fun i9 (s9:Int)=>[.cells [.p (iv a0.States),.p (.sl none 1 (List.map rowI a0.Final)),.p (.sl none 3 (List.map row_Rule a0.Rules))],.cells [.p (iv a2.Sym),.p (.sl none 2 (List.map row_Tree a2.Kids))],.cells [.p (iv a3.Relabel),.p (iv a3.Remove),.p (iv a3.Insert)],.arr 0 1 (List.map (rowA rowI) s7),.cells [.p (iv x7.Sym),.p (.sl none 1 (List.map rowI x7.From)),.p (iv x7.To)]]) (N:=fun (s9:Int)=>⟨[(6,.ptr 1 0),(7,.ptr 2 0),(9,.own 1 (List.map (rowL 1 rowI) s1)),(12,.ms 3 0 1 0 ((a0.States).toNat)),(15,.ptr 4 0),(16,.p (iv s9)),(69,.p (.sl none 3 (List.map row_Rule a0.Rules))),(70,.p (iv (a0.Rules.length:Int))),(71,.p (iv (i7:Int)))],[.cells [.p (iv a0.States),.p (.sl none 1 (List.map rowI a0.Final)),.p (.sl none 3 (List.map row_Rule a0.Rules))],.cells [.p (iv a2.Sym),.p (.sl none 2 (List.map row_Tree a2.Kids))],.cells [.p (iv a3.Relabel),.p (iv a3.Remove),.p (iv a3.Insert)],.arr 0 1 (List.map (rowA rowI) s7),.cells [.p (iv x7.Sym),.p (.sl none 1 (List.map rowI x7.From)),.p (iv x7.To)]],[],none,false⟩) h rfl rfl (fun _ _=>rfl) ?_ ?_ ?_
        ·intro s9 h
         try dsimp only at h ⊢
         obtain ⟨v7,e_v7,h⟩:=ob h
         obtain ⟨e_v7a,e_v7b,e_v7d⟩:=idxM_some e_v7
         have e_y2:List.set (List.map (rowA rowI) s7) ((x7.To).toNat) [.p (iv (minI v7 s9))] = List.map (rowA rowI) (List.set s7 ((x7.To).toNat) (minI v7 s9)):=map_set' (by first | rfl | simp only [go_sem,List.map_cons,List.map_nil])
         simp only [go_sem,e_v7a,e_v7b,e_v7d,e_y2,hw7,hR7,hE7]
         exact ih7 (List.set s7 ((x7.To).toNat) (minI v7 s9)) h
        ·intro K9 s9 hb9 he9
         try dsimp only
         conv=>arg 1; arg 7; unfold L55_6 loopAt S22.c55 Try.f55; simp only [loopIn,Option.getD_some,if_true]
         simp only [go_sem,he9]
         exact hb9
        ·intro K9 k9 i9 x9 s9 n9 hR9 hE9 hb9 hx9 hi9 hw9 ih9 h
         try dsimp only at h ⊢
         conv=>arg 1; arg 7; unfold L55_6 loopAt S22.c55 Try.f55; simp only [loopIn,Option.getD_some,if_true]
         obtain ⟨v8,e_v8,h⟩:=ob h
         obtain ⟨v9,e_v9,h⟩:=ob h
         obtain ⟨e_v9a,e_v9b⟩:=idx_some e_v9
         obtain ⟨v10,e_v10,h⟩:=ob h
         have e_v10c:=spec86 s9 v9 v10 e_v10
         simp only [go_sem,hx9,hi9,hw9,e_v8,e_v9a,e_v9b,e_v10c,hw7,hR7,hE7,hR9,hE9]
         exact ih9 v10 h
     ·have h:=iteF h c1
      have c1b:((x7.From.length:Int) != (a2.Kids.length:Int)) = true:=bneT c1
      simp only [go_sem,hx7,hi7,hw7,c1b,hR7,hE7]
      exact ih7 s7 h
   ·intro K2 i2 s2 hb2 he2
    try dsimp only
    conv=>arg 1; arg 7; unfold L55_2 loopAt S22.c55 Try.f55; simp only [loopIn,Option.getD_some,if_true]
    simp only [go_sem,he2]
    exact hb2
   ·intro K2 k2 i2 s2 n2 hR2 hE2 hb2 hi2 hw2 ih2 h
    try dsimp only at h ⊢
    conv=>arg 1; arg 7; unfold L55_2 loopAt S22.c55 Try.f55; simp only [loopIn,Option.getD_some,if_true]
    obtain ⟨v11,e_v11,h⟩:=ob h
    obtain ⟨e_v11a,e_v11b,e_v11d⟩:=idxM_some e_v11
    simp only [Int.toNat_natCast] at e_v11b
    simp only [Int.toNat_natCast] at e_v11d
    have e_y3:List.set (List.map (rowA rowI) s2) i2 [.p (iv 4503599627370496)] = List.map (rowA rowI) (List.set s2 i2 4503599627370496):=map_set' (by first | rfl | simp only [go_sem,List.map_cons,List.map_nil])
    obtain ⟨v12,e_v12,h⟩:=ob h
    by_cases c4:0 < v12
    ·have h:=iteT h c4
     obtain ⟨v13,e_v13,h⟩:=ob h
     have e_v13c:=spec23 n a2 v13 e_v13
     obtain ⟨v14,e_v14,h⟩:=ob h
     have e_v14c:=spec87 a3.Remove v13 v14 e_v14
     obtain ⟨v15,e_v15,h⟩:=ob h
     have e_v15c:=spec87 a3.Insert v12 v15 e_v15
     obtain ⟨v16,e_v16,h⟩:=ob h
     have e_v16c:=spec86 v14 v15 v16 e_v16
     obtain ⟨v17,e_v17,h⟩:=ob h
     obtain ⟨e_v17a,e_v17b,e_v17d⟩:=idxM_some e_v17
     simp only [Int.toNat_natCast] at e_v17b
     simp only [Int.toNat_natCast] at e_v17d
     have e_y4:List.set (List.map (rowA rowI) (List.set s2 i2 4503599627370496)) i2 [.p (iv v16)] = List.map (rowA rowI) (List.set (List.set s2 i2 4503599627370496) i2 v16):=map_set' (by first | rfl | simp only [go_sem,List.map_cons,List.map_nil])
     simp only [go_sem,hi2,hw2,e_v11b,e_v11d,e_y3,e_v12,c4,e_v13c,e_v14c,e_v15c,e_v16c,e_v17b,e_v17d,e_y4,hR2,hE2]
     rw [List.set_set] at h; exact ih2 (List.set s2 i2 v16) h
    ·have h:=iteF h c4
     simp only [go_sem,hi2,hw2,e_v11b,e_v11d,e_y3,e_v12,c4,hR2,hE2]
     exact ih2 (List.set s2 i2 4503599627370496) h
  ·intro K1 s1 hb1 he1
   try dsimp only
   conv=>arg 1; arg 7; unfold L55_0 loopAt S22.c55 Try.f55; simp only [loopIn,Option.getD_some,if_true]
   simp only [go_sem,he1]
   exact hb1
  ·intro K1 k1 i1 x1 s1 n1 hR1 hE1 hb1 hx1 hi1 hw1 ih1 h
   try dsimp only at h ⊢
   conv=>arg 1; arg 7; unfold L55_0 loopAt S22.c55 Try.f55; simp only [loopIn,Option.getD_some,if_true]
   obtain ⟨v18,e_v18,h⟩:=ob h
   have e_v18c:=ih a0 a1 x1 a3 v18 e_v18
   obtain ⟨v19,e_v19,h⟩:=ob h
   have e_v19a:boundOk (s1.length + 1) 24 = true:=bnd_of (by have:=(app_some e_v19).1; simpa using this) (by decide)
   have e_v19b:(List.map (rowL 1 rowI) s1) ++ [[.sl none 1 (List.map rowI v18)]] = List.map (rowL 1 rowI) v19:=by rw [(app_some e_v19).2]; simp [rowI,rowL]
   simp only [go_sem,hx1,hi1,hw1,e_v18c,e_v19a,e_v19b,hR1,hE1]
   exact ih1 v19 h
def ref22_Cost (n:Nat) (a0:Alphabet) (a1:Automaton) (a2:Tree) (a3:ref22_Weights):Option (Int×Int) :=
 (ref22_Asked n a0 a1 a2).bind fun v1 =>
 if v1 = 0 then
  (ref22_Valid a3).bind fun v2 =>
  if v2 = true then
   (ref06_None n a1).bind fun v3 =>
   if v3 = true then
    some (0,5)
   else
    (ref06_Smallest n a1).bind fun v4 =>
    (ref22_costs n a1 v4 a2 a3).bind fun v5 =>
    rangeL a1.Final 4503599627370496 (fun k1 i1 x1 (s1:Int) n1 =>
     (idx v5 x1).bind fun v6 =>
     n1 (minI s1 v6)) fun s1 =>
    if 1099511627776 < s1 then
     some (0,3)
    else
     some (s1,0)
  else
   some (0,6)
 else
  some (0,1)
theorem spec22 (n:Nat) (a0:Alphabet) (a1:Automaton) (a2:Tree) (a3:ref22_Weights) (r:Int×Int) (h:ref22_Cost n a0 a1 a2 a3 = some r) :
 call Try.prog T H (.fn 22) [.p (.agg [.sl none 1 (List.map rowI a0.Ranks)]),.p (.agg [iv a1.States,.sl none 1 (List.map rowI a1.Final),.sl none 3 (List.map row_Rule a1.Rules)]),.p (.agg [iv a2.Sym,.sl none 2 (List.map row_Tree a2.Kids)]),.p (.agg [iv a3.Relabel,iv a3.Remove,iv a3.Insert])] [] = some (.ret (.p (.tup [iv r.1,iv r.2])),[]):=by
 refine Sat.fn fun Q hQ=>?_
 unfold ref22_Cost at h
 rw [call22]
 conv=>arg 1; arg 7; unfold S22.c22 Try.f22; simp only [Option.getD_some]
 obtain ⟨v1,e_v1,h⟩:=ob h
 have e_v1c:=spec34 n a0 a1 a2 v1 e_v1
 by_cases c1:v1 = 0
 ·have h:=iteT h c1
  have c1b:(v1 != 0) = false:=bneF c1
  obtain ⟨v2,e_v2,h⟩:=ob h
  have e_v2c:=spec47 a3 v2 e_v2
  by_cases c2:v2 = true
  ·have h:=iteT h c2
   obtain ⟨v3,e_v3,h⟩:=ob h
   have e_v3c:=spec54 n a1 v3 e_v3
   by_cases c3:v3 = true
   ·have h:=iteT h c3
    simp only [go_sem,e_v1c,c1b,e_v2c,c2,e_v3c,c3]
    injection h with h; subst h
    exact Sat.ok hQ
   ·have h:=iteF h c3
    have c3:=eq_false_of_ne_true c3
    obtain ⟨v4,e_v4,h⟩:=ob h
    have e_v4c:=spec42 n a1 v4 e_v4
    obtain ⟨v5,e_v5,h⟩:=ob h
    have e_v5c:=spec55 n a1 v4 a2 a3 v5 e_v5
    simp only [go_sem,e_v1c,c1b,e_v2c,c2,e_v3c,c3,e_v4c,e_v5c]
    refine run_rangeL (c:=L22_1) (live:=[10,11,34,35,36]) (by simp only [go_sem]) (M:=fun i1 (s1:Int)=>[(10,.p (.sl none 1 (List.map rowI v5))),(11,.p (iv s1)),(34,.p (.sl none 1 (List.map rowI a1.Final))),(35,.p (iv (a1.Final.length:Int))),(36,.p (iv (i1:Int)))]) (Z:=fun i1 (s1:Int)=>[.cells [.p (.sl none 1 (List.map rowI a0.Ranks))],.cells [.p (iv a1.States),.p (.sl none 1 (List.map rowI a1.Final)),.p (.sl none 3 (List.map row_Rule a1.Rules))],.cells [.p (iv a2.Sym),.p (.sl none 2 (List.map row_Tree a2.Kids))],.cells [.p (iv a3.Relabel),.p (iv a3.Remove),.p (iv a3.Insert)]]) (N:=fun (s1:Int)=>⟨[(11,.p (iv s1))],[.cells [.p (.sl none 1 (List.map rowI a0.Ranks))],.cells [.p (iv a1.States),.p (.sl none 1 (List.map rowI a1.Final)),.p (.sl none 3 (List.map row_Rule a1.Rules))],.cells [.p (iv a2.Sym),.p (.sl none 2 (List.map row_Tree a2.Kids))],.cells [.p (iv a3.Relabel),.p (iv a3.Remove),.p (iv a3.Insert)]],[],none,false⟩) h rfl rfl (fun _ _=>rfl) ?_ ?_ ?_
    ·intro s1 h
     try dsimp only at h ⊢
     by_cases c4:1099511627776 < s1
     ·have h:=iteT h c4
      simp only [go_sem,c4]
      injection h with h; subst h
      exact Sat.ok hQ
     ·have h:=iteF h c4
      simp only [go_sem,c4]
      injection h with h; subst h
      exact Sat.ok hQ
    ·intro K1 s1 hb1 he1
     try dsimp only
     conv=>arg 1; arg 7; unfold L22_1 loopAt S22.c22 Try.f22; simp only [loopIn,Option.getD_some,if_true]
     simp only [go_sem,he1]
     exact hb1
    ·intro K1 k1 i1 x1 s1 n1 hR1 hE1 hb1 hx1 hi1 hw1 ih1 h
     try dsimp only at h ⊢
     conv=>arg 1; arg 7; unfold L22_1 loopAt S22.c22 Try.f22; simp only [loopIn,Option.getD_some,if_true]
     obtain ⟨v6,e_v6,h⟩:=ob h
     obtain ⟨e_v6a,e_v6b⟩:=idx_some e_v6
     simp only [go_sem,hx1,hi1,hw1,e_v6a,e_v6b,hR1,hE1]
     exact ih1 (minI s1 v6) h
  ·have h:=iteF h c2
   have c2:=eq_false_of_ne_true c2
   simp only [go_sem,e_v1c,c1b,e_v2c,c2]
   injection h with h; subst h
   exact Sat.ok hQ
 ·have h:=iteF h c1
  have c1b:(v1 != 0) = true:=bneT c1
  simp only [go_sem,e_v1c,c1b]
  injection h with h; subst h
  exact Sat.ok hQ
def ref03_In (a0:List Int) (a1:Int):Option Bool :=
 rangeL a0 () (fun k1 i1 x1 (s1:Unit) n1 =>
  if x1 = a1 then
   some true
  else
   n1 ()) fun s1 =>
 some false
theorem spec88 (a0:List Int) (a1:Int) (r:Bool) (h:ref03_In a0 a1 = some r) :
 call Try.prog T H (.fn 88) [.p (.sl none 1 (List.map rowI a0)),.p (iv a1)] [] = some (.ret (.p (bv r)),[]):=by
 refine Sat.fn fun Q hQ=>?_
 unfold ref03_In at h
 rw [call88]
 conv=>arg 1; arg 7; unfold S22.c88 Try.f88; simp only [Option.getD_some]
 simp only [go_sem]
 refine run_rangeL (c:=L88_0) (live:=[1,7,8,9]) (by simp only [go_sem]) (M:=fun i1 (s1:Unit)=>[(1,.p (iv a1)),(7,.p (.sl none 1 (List.map rowI a0))),(8,.p (iv (a0.length:Int))),(9,.p (iv (i1:Int)))]) (Z:=fun i1 (s1:Unit)=>[]) (N:=fun (s1:Unit)=>⟨[],[],[],none,false⟩) h rfl rfl (fun _ _=>rfl) ?_ ?_ ?_
 ·intro s1 h
  try dsimp only at h ⊢
  simp only [go_sem]
  injection h with h; subst h
  exact Sat.ok hQ
 ·intro K1 s1 hb1 he1
  try dsimp only
  conv=>arg 1; arg 7; unfold L88_0 loopAt S22.c88 Try.f88; simp only [loopIn,Option.getD_some,if_true]
  simp only [go_sem,he1]
  exact hb1
 ·intro K1 k1 i1 x1 s1 n1 hR1 hE1 hb1 hx1 hi1 hw1 ih1 h
  try dsimp only at h ⊢
  conv=>arg 1; arg 7; unfold L88_0 loopAt S22.c88 Try.f88; simp only [loopIn,Option.getD_some,if_true]
  by_cases c1:x1 = a1
  ·have h:=iteT h c1
   have c1b:(x1 == a1) = true:=beqT c1
   simp only [go_sem,hx1,hi1,hw1,c1b,hR1,hE1]
   injection h with h; subst h
   exact Sat.ok hQ
  ·have h:=iteF h c1
   have c1b:(x1 == a1) = false:=beqF c1
   simp only [go_sem,hx1,hi1,hw1,c1b,hR1,hE1]
   exact ih1 () h
def ref03_Meet (a0:List Int) (a1:List Int):Option Bool :=
 rangeL a0 () (fun k1 i1 x1 (s1:Unit) n1 =>
  (ref03_In a1 x1).bind fun v1 =>
  if v1 = true then
   some true
  else
   n1 ()) fun s1 =>
 some false
theorem spec58 (a0:List Int) (a1:List Int) (r:Bool) (h:ref03_Meet a0 a1 = some r) :
 call Try.prog T H (.fn 58) [.p (.sl none 1 (List.map rowI a0)),.p (.sl none 1 (List.map rowI a1))] [] = some (.ret (.p (bv r)),[]):=by
 refine Sat.fn fun Q hQ=>?_
 unfold ref03_Meet at h
 rw [call58]
 conv=>arg 1; arg 7; unfold S22.c58 Try.f58; simp only [Option.getD_some]
 simp only [go_sem]
 refine run_rangeL (c:=L58_0) (live:=[1,7,8,9]) (by simp only [go_sem]) (M:=fun i1 (s1:Unit)=>[(1,.p (.sl none 1 (List.map rowI a1))),(7,.p (.sl none 1 (List.map rowI a0))),(8,.p (iv (a0.length:Int))),(9,.p (iv (i1:Int)))]) (Z:=fun i1 (s1:Unit)=>[]) (N:=fun (s1:Unit)=>⟨[],[],[],none,false⟩) h rfl rfl (fun _ _=>rfl) ?_ ?_ ?_
 ·intro s1 h
  try dsimp only at h ⊢
  simp only [go_sem]
  injection h with h; subst h
  exact Sat.ok hQ
 ·intro K1 s1 hb1 he1
  try dsimp only
  conv=>arg 1; arg 7; unfold L58_0 loopAt S22.c58 Try.f58; simp only [loopIn,Option.getD_some,if_true]
  simp only [go_sem,he1]
  exact hb1
 ·intro K1 k1 i1 x1 s1 n1 hR1 hE1 hb1 hx1 hi1 hw1 ih1 h
  try dsimp only at h ⊢
  conv=>arg 1; arg 7; unfold L58_0 loopAt S22.c58 Try.f58; simp only [loopIn,Option.getD_some,if_true]
  obtain ⟨v1,e_v1,h⟩:=ob h
  have e_v1c:=spec88 a1 x1 v1 e_v1
  by_cases c1:v1 = true
  ·have h:=iteT h c1
   simp only [go_sem,hx1,hi1,hw1,e_v1c,c1,hR1,hE1]
   injection h with h; subst h
   exact Sat.ok hQ
  ·have h:=iteF h c1
   have c1:=eq_false_of_ne_true c1
   simp only [go_sem,hx1,hi1,hw1,e_v1c,c1,hR1,hE1]
   exact ih1 () h
def ref03_Insert (n:Nat) (a0:List Int) (a1:Int):Option (List Int) :=
 whileL n 0 (fun k1 (s1:Int) n1 =>
  if s1 < (a0.length:Int) then
   (idx a0 s1).bind fun v12 =>
   if v12 < a1 then
    n1 (w64 (s1 + 1))
   else
    k1 s1
  else
   k1 s1) fun s1 =>
 if s1 < (a0.length:Int) then
  (idx a0 s1).bind fun v1 =>
  if v1 = a1 then
   some a0
  else
   (slcT a0 s1).bind fun v2 =>
   (app 8 ([]:List Int) v2).bind fun v3 =>
   (app 8 v3 [a1]).bind fun v4 =>
   (slcF a0 s1).bind fun v5 =>
   (app 8 v4 v5).bind fun v6 =>
   some v6
 else
  (slcT a0 s1).bind fun v7 =>
  (app 8 ([]:List Int) v7).bind fun v8 =>
  (app 8 v8 [a1]).bind fun v9 =>
  (slcF a0 s1).bind fun v10 =>
  (app 8 v9 v10).bind fun v11 =>
  some v11
theorem spec100 (n:Nat) (a0:List Int) (a1:Int) (r:List Int) (h:ref03_Insert n a0 a1 = some r) :
 call Try.prog T H (.fn 100) [.p (.sl none 1 (List.map rowI a0)),.p (iv a1)] [] = some (.ret (.p (.sl none 1 (List.map rowI r))),[]):=by
 refine Sat.fn fun Q hQ=>?_
 unfold ref03_Insert at h
 rw [call100]
 conv=>arg 1; arg 7; unfold S22.c100 Try.f100; simp only [Option.getD_some]
 simp only [go_sem]
 refine run_whileL (c:=L100_0) (live:=[0,1,5]) (by simp only [go_sem]) (M:=fun (s1:Int)=>[(0,.p (.sl none 1 (List.map rowI a0))),(1,.p (iv a1)),(5,.p (iv s1))]) (Z:=fun (s1:Int)=>[]) (N:=fun (s1:Int)=>⟨[(0,.p (.sl none 1 (List.map rowI a0))),(1,.p (iv a1)),(5,.p (iv s1))],[],[],none,false⟩) h rfl rfl (fun _=>rfl) ?_ ?_
 ·intro s1 h
  try dsimp only at h ⊢
  by_cases c1:s1 < (a0.length:Int)
  ·have h:=iteT h c1
   obtain ⟨v1,e_v1,h⟩:=ob h
   obtain ⟨e_v1a,e_v1b⟩:=idx_some e_v1
   by_cases c2:v1 = a1
   ·have h:=iteT h c2
    have c2b:(v1 == a1) = true:=beqT c2
    simp only [go_sem,c1,e_v1a,e_v1b,c2b]
    injection h with h; subst h
    exact Sat.ok hQ
   ·have h:=iteF h c2
    have c2b:(v1 == a1) = false:=beqF c2
    obtain ⟨v2,e_v2,h⟩:=ob h
    obtain ⟨e_v21,e_v22,e_v23,e_v24⟩:=slcT_some e_v2
    obtain ⟨v3,e_v3,h⟩:=ob h
    have e_v3a:boundOk (v2.length) 8 = true:=bnd_of (by have:=(app_some e_v3).1; simpa using this) (by decide)
    have e_v3b:[] ++ (List.map rowI v2) = List.map rowI v3:=by rw [(app_some e_v3).2]; simp [rowI]
    have e_v3b:(List.map rowI v2) = List.map rowI v3:=by rw [← e_v3b]; rfl
    have e_v3z:boundOk (v3.length) 8 = true:=by rw [(app_some e_v3).2]; simpa using e_v3a
    obtain ⟨v4,e_v4,h⟩:=ob h
    have e_v4a:boundOk (v3.length + 1) 8 = true:=bnd_of (by have:=(app_some e_v4).1; simpa using this) (by decide)
    have e_v4b:(List.map rowI v3) ++ [[iv a1]] = List.map rowI v4:=by rw [(app_some e_v4).2]; simp [rowI]
    obtain ⟨v5,e_v5,h⟩:=ob h
    obtain ⟨e_v51,e_v52,e_v53,e_v54⟩:=slcF_some e_v5
    obtain ⟨v6,e_v6,h⟩:=ob h
    have e_v6a:boundOk (v4.length + v5.length) 8 = true:=bnd_of (by have:=(app_some e_v6).1; simpa using this) (by decide)
    have e_v6b:(List.map rowI v4) ++ (List.map rowI v5) = List.map rowI v6:=by rw [(app_some e_v6).2]; simp [rowI]
    have e_v6b:List.map rowI (v4 ++ v5) = List.map rowI v6:=by rw [(app_some e_v6).2]
    simp only [go_sem,c1,e_v1a,e_v1b,c2b,e_v21,e_v23,← e_v24,e_v3a,e_v3z,e_v3b,e_v4a,e_v4b,e_v51,e_v52,← e_v54,e_v6a,e_v6b]
    injection h with h; subst h
    exact Sat.ok hQ
  ·have h:=iteF h c1
   obtain ⟨v7,e_v7,h⟩:=ob h
   obtain ⟨e_v71,e_v72,e_v73,e_v74⟩:=slcT_some e_v7
   obtain ⟨v8,e_v8,h⟩:=ob h
   have e_v8a:boundOk (v7.length) 8 = true:=bnd_of (by have:=(app_some e_v8).1; simpa using this) (by decide)
   have e_v8b:[] ++ (List.map rowI v7) = List.map rowI v8:=by rw [(app_some e_v8).2]; simp [rowI]
   have e_v8b:(List.map rowI v7) = List.map rowI v8:=by rw [← e_v8b]; rfl
   have e_v8z:boundOk (v8.length) 8 = true:=by rw [(app_some e_v8).2]; simpa using e_v8a
   obtain ⟨v9,e_v9,h⟩:=ob h
   have e_v9a:boundOk (v8.length + 1) 8 = true:=bnd_of (by have:=(app_some e_v9).1; simpa using this) (by decide)
   have e_v9b:(List.map rowI v8) ++ [[iv a1]] = List.map rowI v9:=by rw [(app_some e_v9).2]; simp [rowI]
   obtain ⟨v10,e_v10,h⟩:=ob h
   obtain ⟨e_v101,e_v102,e_v103,e_v104⟩:=slcF_some e_v10
   obtain ⟨v11,e_v11,h⟩:=ob h
   have e_v11a:boundOk (v9.length + v10.length) 8 = true:=bnd_of (by have:=(app_some e_v11).1; simpa using this) (by decide)
   have e_v11b:(List.map rowI v9) ++ (List.map rowI v10) = List.map rowI v11:=by rw [(app_some e_v11).2]; simp [rowI]
   have e_v11b:List.map rowI (v9 ++ v10) = List.map rowI v11:=by rw [(app_some e_v11).2]
   simp only [go_sem,c1,e_v71,e_v73,← e_v74,e_v8a,e_v8z,e_v8b,e_v9a,e_v9b,e_v101,e_v102,← e_v104,e_v11a,e_v11b]
   injection h with h; subst h
   exact Sat.ok hQ
 ·intro K1 k1 s1 n1 hR1 hE1 hb1 ih1 h
  try dsimp only at h ⊢
  conv=>arg 1; arg 7; unfold L100_0 loopAt S22.c100 Try.f100; simp only [loopIn,Option.getD_some,if_true]
  by_cases c3:s1 < (a0.length:Int)
  ·have h:=iteT h c3
   obtain ⟨v12,e_v12,h⟩:=ob h
   obtain ⟨e_v12a,e_v12b⟩:=idx_some e_v12
   by_cases c4:v12 < a1
   ·have h:=iteT h c4
    simp only [go_sem,c3,e_v12a,e_v12b,c4,hR1,hE1]
    exact ih1 (w64 (s1 + 1)) h
   ·have h:=iteF h c4
    simp only [go_sem,c3,e_v12a,e_v12b,c4,hR1,hE1]
    exact hb1 s1 h
  ·have h:=iteF h c3
   simp only [go_sem,c3,hR1,hE1]
   exact hb1 s1 h
def ref03_Step (n:Nat) (a0:Automaton) (a1:Int) (a2:List (List Int)):Option (List Int) :=
 rangeL a0.Rules ([]:List Int) (fun k3 i3 x3 (s3:(List Int)) n3 =>
  whileL n ((x3.Sym == a1),0) (fun k4 (s4:Bool×Int) n4 =>
   if s4.1 = true then
    if s4.2 < (a2.length:Int) then
     (idx a2 s4.2).bind fun v2 =>
     (idx x3.From s4.2).bind fun v3 =>
     (ref03_In v2 v3).bind fun v4 =>
     n4 (v4,w64 (s4.2 + 1))
    else
     k4 (true,s4.2)
   else
    k4 (false,s4.2)) fun s4 =>
  if s4.1 = true then
   (ref03_Insert n s3 x3.To).bind fun v1 =>
   n3 v1
  else
   n3 s3) fun s3 =>
 some s3
theorem spec89 (n:Nat) (a0:Automaton) (a1:Int) (a2:List (List Int)) (r:List Int) (h:ref03_Step n a0 a1 a2 = some r) :
 call Try.prog T H (.fn 89) [.p (.agg [iv a0.States,.sl none 1 (List.map rowI a0.Final),.sl none 3 (List.map row_Rule a0.Rules)]),.p (iv a1),.p (.sl none 1 (List.map (rowL 1 rowI) a2))] [] = some (.ret (.p (.sl none 1 (List.map rowI r))),[]):=by
 refine Sat.fn fun Q hQ=>?_
 unfold ref03_Step at h
 rw [call89]
 conv=>arg 1; arg 7; unfold S22.c89 Try.f89; simp only [Option.getD_some]
 simp only [go_sem]
 refine run_rangeL (c:=L89_0) (live:=[1,2,7,13,14,15]) (by simp only [go_sem]) (M:=fun i3 (s3:(List Int))=>[(1,.p (iv a1)),(2,.p (.sl none 1 (List.map (rowL 1 rowI) a2))),(7,.p (.sl none 1 (List.map rowI s3))),(13,.p (.sl none 3 (List.map row_Rule a0.Rules))),(14,.p (iv (a0.Rules.length:Int))),(15,.p (iv (i3:Int)))]) (Z:=fun i3 (s3:(List Int))=>[.cells [.p (iv a0.States),.p (.sl none 1 (List.map rowI a0.Final)),.p (.sl none 3 (List.map row_Rule a0.Rules))]]) (N:=fun (s3:(List Int))=>⟨[(7,.p (.sl none 1 (List.map rowI s3)))],[.cells [.p (iv a0.States),.p (.sl none 1 (List.map rowI a0.Final)),.p (.sl none 3 (List.map row_Rule a0.Rules))]],[],none,false⟩) h rfl rfl (fun _ _=>rfl) ?_ ?_ ?_
 ·intro s3 h
  try dsimp only at h ⊢
  simp only [go_sem]
  injection h with h; subst h
  exact Sat.ok hQ
 ·intro K3 s3 hb3 he3
  try dsimp only
  conv=>arg 1; arg 7; unfold L89_0 loopAt S22.c89 Try.f89; simp only [loopIn,Option.getD_some,if_true]
  simp only [go_sem,he3]
  exact hb3
 ·intro K3 k3 i3 x3 s3 n3 hR3 hE3 hb3 hx3 hi3 hw3 ih3 h
  try dsimp only at h ⊢
  conv=>arg 1; arg 7; unfold L89_0 loopAt S22.c89 Try.f89; simp only [loopIn,Option.getD_some,if_true]
  simp only [go_sem,hx3,hi3,hw3,hR3,hE3]
  refine run_whileL (c:=L89_2) (live:=[1,2,7,9,10,11,13,14,15]) (by simp only [go_sem]) (M:=fun (s4:Bool×Int)=>[(1,.p (iv a1)),(2,.p (.sl none 1 (List.map (rowL 1 rowI) a2))),(7,.p (.sl none 1 (List.map rowI s3))),(9,.ptr 1 0),(10,.p (bv s4.1)),(11,.p (iv s4.2)),(13,.p (.sl none 3 (List.map row_Rule a0.Rules))),(14,.p (iv (a0.Rules.length:Int))),(15,.p (iv (i3:Int)))]) (Z:=fun (s4:Bool×Int)=>[.cells [.p (iv a0.States),.p (.sl none 1 (List.map rowI a0.Final)),.p (.sl none 3 (List.map row_Rule a0.Rules))],.cells [.p (iv x3.Sym),.p (.sl none 1 (List.map rowI x3.From)),.p (iv x3.To)]]) (N:=fun (s4:Bool×Int)=>⟨[(1,.p (iv a1)),(2,.p (.sl none 1 (List.map (rowL 1 rowI) a2))),(7,.p (.sl none 1 (List.map rowI s3))),(9,.ptr 1 0),(10,.p (bv s4.1)),(13,.p (.sl none 3 (List.map row_Rule a0.Rules))),(14,.p (iv (a0.Rules.length:Int))),(15,.p (iv (i3:Int)))],[.cells [.p (iv a0.States),.p (.sl none 1 (List.map rowI a0.Final)),.p (.sl none 3 (List.map row_Rule a0.Rules))],.cells [.p (iv x3.Sym),.p (.sl none 1 (List.map rowI x3.From)),.p (iv x3.To)]],[],none,false⟩) h rfl rfl (fun _=>rfl) ?_ ?_
  ·intro s4 h
   try dsimp only at h ⊢
   by_cases c1:s4.1 = true
   ·have h:=iteT h c1
    obtain ⟨v1,e_v1,h⟩:=ob h
    have e_v1c:=spec100 n s3 x3.To v1 e_v1
    simp only [go_sem,c1,e_v1c,hw3,hR3,hE3]
    exact ih3 v1 h
   ·have h:=iteF h c1
    have c1:=eq_false_of_ne_true c1
    simp only [go_sem,c1,hw3,hR3,hE3]
    exact ih3 s3 h
  ·intro K4 k4 s4 n4 hR4 hE4 hb4 ih4 h
   try dsimp only at h ⊢
   conv=>arg 1; arg 7; unfold L89_2 loopAt S22.c89 Try.f89; simp only [loopIn,Option.getD_some,if_true]
   by_cases c2:s4.1 = true
   ·have h:=iteT h c2
    by_cases c3:s4.2 < (a2.length:Int)
    ·have h:=iteT h c3
     obtain ⟨v2,e_v2,h⟩:=ob h
     obtain ⟨e_v2a,e_v2b⟩:=idx_some e_v2
     obtain ⟨v3,e_v3,h⟩:=ob h
     obtain ⟨e_v3a,e_v3b⟩:=idx_some e_v3
     obtain ⟨v4,e_v4,h⟩:=ob h
     have e_v4c:=spec88 v2 v3 v4 e_v4
     simp only [go_sem,c2,c3,e_v2a,e_v2b,e_v3a,e_v3b,e_v4c,hw3,hR3,hE3,hR4,hE4]
     exact ih4 (v4,w64 (s4.2 + 1)) h
    ·have h:=iteF h c3
     simp only [go_sem,c2,c3,hw3,hR3,hE3,hR4,hE4]
     exact hb4 (true,s4.2) h
   ·have h:=iteF h c2
    have c2:=eq_false_of_ne_true c2
    simp only [go_sem,c2,hw3,hR3,hE3,hR4,hE4]
    exact hb4 (false,s4.2) h
def ref03_Of:Nat→Automaton→Tree→Option (List Int)
 | 0,_,_=>none
 | n + 1,a0,a1 =>
  rangeL a1.Kids ([]:List (List Int)) (fun k1 i1 x1 (s1:(List (List Int))) n1 =>
   (ref03_Of n a0 x1).bind fun v2 =>
   (app 24 s1 [v2]).bind fun v3 =>
   n1 v3) fun s1 =>
  (ref03_Step n a0 a1.Sym s1).bind fun v1 =>
  some v1
theorem spec59:∀ (n:Nat),(∀ (a0:Automaton) (a1:Tree) (r:List Int),ref03_Of n a0 a1 = some r →
 call Try.prog T H (.fn 59) [.p (.agg [iv a0.States,.sl none 1 (List.map rowI a0.Final),.sl none 3 (List.map row_Rule a0.Rules)]),.p (.agg [iv a1.Sym,.sl none 2 (List.map row_Tree a1.Kids)])] [] = some (.ret (.p (.sl none 1 (List.map rowI r))),[])):=by
 intro n
 induction n with
 | zero=>intro a0 a1 r h; cases h
 | succ n ih =>
  intro a0 a1 r h
  refine Sat.fn fun Q hQ=>?_
  rw [ref03_Of] at h
  rw [call59]
  conv=>arg 1; arg 7; unfold S22.c59 Try.f59; simp only [Option.getD_some]
  simp only [go_sem]
  refine run_rangeL (c:=L59_0) (live:=[2,3,5,9,10,11]) (by simp only [go_sem]) (M:=fun i1 (s1:(List (List Int)))=>[(2,.ptr 0 0),(3,.ptr 1 0),(5,.own 1 (List.map (rowL 1 rowI) s1)),(9,.p (.sl none 2 (List.map row_Tree a1.Kids))),(10,.p (iv (a1.Kids.length:Int))),(11,.p (iv (i1:Int)))]) (Z:=fun i1 (s1:(List (List Int)))=>[.cells [.p (iv a0.States),.p (.sl none 1 (List.map rowI a0.Final)),.p (.sl none 3 (List.map row_Rule a0.Rules))],.cells [.p (iv a1.Sym),.p (.sl none 2 (List.map row_Tree a1.Kids))]]) (N:=fun (s1:(List (List Int)))=>⟨[(2,.ptr 0 0),(3,.ptr 1 0),(5,.own 1 (List.map (rowL 1 rowI) s1))],[.cells [.p (iv a0.States),.p (.sl none 1 (List.map rowI a0.Final)),.p (.sl none 3 (List.map row_Rule a0.Rules))],.cells [.p (iv a1.Sym),.p (.sl none 2 (List.map row_Tree a1.Kids))]],[],none,false⟩) h rfl rfl (fun _ _=>rfl) ?_ ?_ ?_
  ·intro s1 h
   try dsimp only at h ⊢
   obtain ⟨v1,e_v1,h⟩:=ob h
   have e_v1c:=spec89 n a0 a1.Sym s1 v1 e_v1
   simp only [go_sem,e_v1c]
   injection h with h; subst h
   exact Sat.ok hQ
  ·intro K1 s1 hb1 he1
   try dsimp only
   conv=>arg 1; arg 7; unfold L59_0 loopAt S22.c59 Try.f59; simp only [loopIn,Option.getD_some,if_true]
   simp only [go_sem,he1]
   exact hb1
  ·intro K1 k1 i1 x1 s1 n1 hR1 hE1 hb1 hx1 hi1 hw1 ih1 h
   try dsimp only at h ⊢
   conv=>arg 1; arg 7; unfold L59_0 loopAt S22.c59 Try.f59; simp only [loopIn,Option.getD_some,if_true]
   obtain ⟨v2,e_v2,h⟩:=ob h
   have e_v2c:=ih a0 x1 v2 e_v2
   obtain ⟨v3,e_v3,h⟩:=ob h
   have e_v3a:boundOk (s1.length + 1) 24 = true:=bnd_of (by have:=(app_some e_v3).1; simpa using this) (by decide)
   have e_v3b:(List.map (rowL 1 rowI) s1) ++ [[.sl none 1 (List.map rowI v2)]] = List.map (rowL 1 rowI) v3:=by rw [(app_some e_v3).2]; simp [rowI,rowL]
   simp only [go_sem,hx1,hi1,hw1,e_v2c,e_v3a,e_v3b,hR1,hE1]
   exact ih1 v3 h
def ref03_Has (n:Nat) (a0:Automaton) (a1:Tree):Option Bool :=
 (ref03_Of n a0 a1).bind fun v1 =>
 (ref03_Meet v1 a0.Final).bind fun v2 =>
 some v2
theorem spec25 (n:Nat) (a0:Automaton) (a1:Tree) (r:Bool) (h:ref03_Has n a0 a1 = some r) :
 call Try.prog T H (.fn 25) [.p (.agg [iv a0.States,.sl none 1 (List.map rowI a0.Final),.sl none 3 (List.map row_Rule a0.Rules)]),.p (.agg [iv a1.Sym,.sl none 2 (List.map row_Tree a1.Kids)])] [] = some (.ret (.p (bv r)),[]):=by
 refine Sat.fn fun Q hQ=>?_
 unfold ref03_Has at h
 rw [call25]
 conv=>arg 1; arg 7; unfold S22.c25 Try.f25; simp only [Option.getD_some]
 obtain ⟨v1,e_v1,h⟩:=ob h
 have e_v1c:=spec59 n a0 a1 v1 e_v1
 obtain ⟨v2,e_v2,h⟩:=ob h
 have e_v2c:=spec58 v1 a0.Final v2 e_v2
 simp only [go_sem,e_v1c,e_v2c]
 injection h with h; subst h
 exact Sat.ok hQ
def law22_RepairCosts (n:Nat) (a0:Alphabet) (a1:Automaton) (a2:Tree) (a3:ref22_Weights):Option Bool :=
 (law22_few n a0 a1 [a2]).bind fun v1 =>
 if v1 = true then
  (law22_given a3).bind fun v2 =>
  (repair_Cost n a0 a1 a2 v2).bind fun v3 =>
  (repair_Fix n a0 a1 a2 v2).bind fun v4 =>
  (ref22_Cost n a0 a1 a2 a3).bind fun v5 =>
  if v3.1 = v5.1 then
   if v3.2 = v5.2 then
    if v5.2 = 0 then
     if v4.2 = 3 then
      if a3.Insert < 1 then
       (law22_awake n).bind fun v6 =>
       some v6
      else
       (ref01_Size n a2).bind fun v7 =>
       if (w64 (300 - v7))≤v3.1 then
        (law22_awake n).bind fun v8 =>
        some v8
       else
        some false
     else
      if v4.2 = 0 then
       (ref01_Valid n a0 v4.1).bind fun v9 =>
       if v9 = true then
        (ref03_Has n a1 v4.1).bind fun v10 =>
        if v10 = true then
         (ref22_Between n a2 v4.1 a3).bind fun v11 =>
         if v11 = v3.1 then
          (law22_awake n).bind fun v12 =>
          some v12
         else
          some false
        else
         some false
       else
        some false
      else
       some false
    else
     if v4.2 = v5.2 then
      (law22_awake n).bind fun v13 =>
      some v13
     else
      some false
   else
    some false
  else
   some false
 else
  (law22_awake n).bind fun v14 =>
  some v14
theorem spec7 (n:Nat) (a0:Alphabet) (a1:Automaton) (a2:Tree) (a3:ref22_Weights) (r:Bool) (h:law22_RepairCosts n a0 a1 a2 a3 = some r) :
 call Try.prog T H (.fn 7) [.p (.agg [.sl none 1 (List.map rowI a0.Ranks)]),.p (.agg [iv a1.States,.sl none 1 (List.map rowI a1.Final),.sl none 3 (List.map row_Rule a1.Rules)]),.p (.agg [iv a2.Sym,.sl none 2 (List.map row_Tree a2.Kids)]),.p (.agg [iv a3.Relabel,iv a3.Remove,iv a3.Insert])] [] = some (.ret (.p (bv r)),[]):=by
 refine Sat.fn fun Q hQ=>?_
 unfold law22_RepairCosts at h
 rw [call7]
 conv=>arg 1; arg 7; unfold S22.c7 Try.f7; simp only [Option.getD_some]
 obtain ⟨v1,e_v1,h⟩:=ob h
 have e_v1c:call Try.prog T H (.fn 8) [.p (.agg [.sl none 1 (List.map rowI a0.Ranks)]),.p (.agg [iv a1.States,.sl none 1 (List.map rowI a1.Final),.sl none 3 (List.map row_Rule a1.Rules)]),.p (.sl none 2 [[iv a2.Sym,.sl none 2 (List.map row_Tree a2.Kids)]])] [] = some (.ret (.p (bv v1)),[]):=by have q:=spec8 n a0 a1 [a2] v1 e_v1; simp only [List.map_cons,List.map_nil,row_Tree_eq] at q ⊢; exact q
 by_cases c1:v1 = true
 ·have h:=iteT h c1
  obtain ⟨v2,e_v2,h⟩:=ob h
  have e_v2c:=spec17 a3 v2 e_v2
  obtain ⟨v3,e_v3,h⟩:=ob h
  have e_v3c:=spec20 n a0 a1 a2 v2 v3 e_v3
  obtain ⟨v4,e_v4,h⟩:=ob h
  have e_v4c:=spec21 n a0 a1 a2 v2 v4 e_v4
  obtain ⟨v5,e_v5,h⟩:=ob h
  have e_v5c:=spec22 n a0 a1 a2 a3 v5 e_v5
  by_cases c2:v3.1 = v5.1
  ·have h:=iteT h c2
   have c2b:(v3.1 != v5.1) = false:=bneF c2
   by_cases c3:v3.2 = v5.2
   ·have h:=iteT h c3
    have c3b:(v3.2 != v5.2) = false:=bneF c3
    by_cases c4:v5.2 = 0
    ·have h:=iteT h c4
     have c4b:(v5.2 != 0) = false:=bneF c4
     by_cases c5:v4.2 = 3
     ·have h:=iteT h c5
      have c5b:(v4.2 == 3) = true:=beqT c5
      by_cases c6:a3.Insert < 1
      ·have h:=iteT h c6
       obtain ⟨v6,e_v6,h⟩:=ob h
       have e_v6c:=spec9 n v6 e_v6
       simp only [go_sem,e_v1c,c1,e_v2c,e_v3c,e_v4c,e_v5c,c2b,c3b,c4b,c5b,c6,e_v6c]
       injection h with h; subst h
       exact Sat.ok hQ
      ·have h:=iteF h c6
       obtain ⟨v7,e_v7,h⟩:=ob h
       have e_v7c:=spec23 n a2 v7 e_v7
       by_cases c7:(w64 (300 - v7))≤v3.1
       ·have h:=iteT h c7
        obtain ⟨v8,e_v8,h⟩:=ob h
        have e_v8c:=spec9 n v8 e_v8
        simp only [go_sem,e_v1c,c1,e_v2c,e_v3c,e_v4c,e_v5c,c2b,c3b,c4b,c5b,c6,e_v7c,c7,e_v8c]
        injection h with h; subst h
        exact Sat.ok hQ
       ·have h:=iteF h c7
        simp only [go_sem,e_v1c,c1,e_v2c,e_v3c,e_v4c,e_v5c,c2b,c3b,c4b,c5b,c6,e_v7c,c7]
        injection h with h; subst h
        exact Sat.ok hQ
     ·have h:=iteF h c5
      have c5b:(v4.2 == 3) = false:=beqF c5
      by_cases c8:v4.2 = 0
      ·have h:=iteT h c8
       have c8b:(v4.2 == 0) = true:=beqT c8
       obtain ⟨v9,e_v9,h⟩:=ob h
       have e_v9c:=spec24 n a0 v4.1 v9 e_v9
       by_cases c9:v9 = true
       ·have h:=iteT h c9
        obtain ⟨v10,e_v10,h⟩:=ob h
        have e_v10c:=spec25 n a1 v4.1 v10 e_v10
        by_cases c10:v10 = true
        ·have h:=iteT h c10
         obtain ⟨v11,e_v11,h⟩:=ob h
         have e_v11c:=spec26 n a2 v4.1 a3 v11 e_v11
         by_cases c11:v11 = v3.1
         ·have h:=iteT h c11
          have c11b:(v11 == v3.1) = true:=beqT c11
          obtain ⟨v12,e_v12,h⟩:=ob h
          have e_v12c:=spec9 n v12 e_v12
          simp only [go_sem,e_v1c,c1,e_v2c,e_v3c,e_v4c,e_v5c,c2b,c3b,c4b,c5b,c8b,e_v9c,c9,e_v10c,c10,e_v11c,c11b,e_v12c]
          injection h with h; subst h
          exact Sat.ok hQ
         ·have h:=iteF h c11
          have c11b:(v11 == v3.1) = false:=beqF c11
          simp only [go_sem,e_v1c,c1,e_v2c,e_v3c,e_v4c,e_v5c,c2b,c3b,c4b,c5b,c8b,e_v9c,c9,e_v10c,c10,e_v11c,c11b]
          injection h with h; subst h
          exact Sat.ok hQ
        ·have h:=iteF h c10
         have c10:=eq_false_of_ne_true c10
         simp only [go_sem,e_v1c,c1,e_v2c,e_v3c,e_v4c,e_v5c,c2b,c3b,c4b,c5b,c8b,e_v9c,c9,e_v10c,c10]
         injection h with h; subst h
         exact Sat.ok hQ
       ·have h:=iteF h c9
        have c9:=eq_false_of_ne_true c9
        simp only [go_sem,e_v1c,c1,e_v2c,e_v3c,e_v4c,e_v5c,c2b,c3b,c4b,c5b,c8b,e_v9c,c9]
        injection h with h; subst h
        exact Sat.ok hQ
      ·have h:=iteF h c8
       have c8b:(v4.2 == 0) = false:=beqF c8
       simp only [go_sem,e_v1c,c1,e_v2c,e_v3c,e_v4c,e_v5c,c2b,c3b,c4b,c5b,c8b]
       injection h with h; subst h
       exact Sat.ok hQ
    ·have h:=iteF h c4
     have c4b:(v5.2 != 0) = true:=bneT c4
     by_cases c12:v4.2 = v5.2
     ·have h:=iteT h c12
      have c12b:(v4.2 == v5.2) = true:=beqT c12
      obtain ⟨v13,e_v13,h⟩:=ob h
      have e_v13c:=spec9 n v13 e_v13
      simp only [go_sem,e_v1c,c1,e_v2c,e_v3c,e_v4c,e_v5c,c2b,c3b,c4b,c12b,e_v13c]
      injection h with h; subst h
      exact Sat.ok hQ
     ·have h:=iteF h c12
      have c12b:(v4.2 == v5.2) = false:=beqF c12
      simp only [go_sem,e_v1c,c1,e_v2c,e_v3c,e_v4c,e_v5c,c2b,c3b,c4b,c12b]
      injection h with h; subst h
      exact Sat.ok hQ
   ·have h:=iteF h c3
    have c3b:(v3.2 != v5.2) = true:=bneT c3
    simp only [go_sem,e_v1c,c1,e_v2c,e_v3c,e_v4c,e_v5c,c2b,c3b]
    injection h with h; subst h
    exact Sat.ok hQ
  ·have h:=iteF h c2
   have c2b:(v3.1 != v5.1) = true:=bneT c2
   simp only [go_sem,e_v1c,c1,e_v2c,e_v3c,e_v4c,e_v5c,c2b]
   injection h with h; subst h
   exact Sat.ok hQ
 ·have h:=iteF h c1
  have c1:=eq_false_of_ne_true c1
  obtain ⟨v14,e_v14,h⟩:=ob h
  have e_v14c:=spec9 n v14 e_v14
  simp only [go_sem,e_v1c,c1,e_v14c]
  injection h with h; subst h
  exact Sat.ok hQ
end Go.AM.S22

namespace Go.AM.S22
open Go Go.Proofs Go.AM
set_option linter.unusedVariables false
theorem w64_eq {n:Int} (h1:-9223372036854775808≤n) (h2:n≤9223372036854775807):w64 n = n:=wrapN h1 h2
theorem app_ok {α:Type} {b:Nat} {xs ys:List α} (h:(xs.length + ys.length) * b≤70368744177664):app b xs ys = some (xs ++ ys):=if_pos h
mutual
def tsT:Tree→Nat
 | .mk _ k=>1 + tsL k
def tsL:List Tree→Nat
 | []=>0
 | x :: r=>tsT x + tsL r
end
mutual
def tdT:Tree→Nat
 | .mk _ k=>tdL k
def tdL:List Tree→Nat
 | []=>0
 | x :: r=>max (tdT x + 1) (tdL r)
end
mutual
def twT:Tree→Bool
 | .mk _ k=>decide (k.length < 9223372036854775808) && twL k
def twL:List Tree→Bool
 | []=>true
 | x :: r=>twT x && twL r
end
theorem tsT_eq (t:Tree):tsT t = 1 + tsL t.Kids:=by cases t; rw [tsT]
theorem tdT_eq (t:Tree):tdT t = tdL t.Kids:=by cases t; rw [tdT]
theorem twT_eq (t:Tree):twT t = (decide (t.Kids.length < 9223372036854775808) && twL t.Kids):=by cases t; rw [twT]
theorem tlen:∀ l:List Tree,l.length≤tsL l
 | []=>Nat.zero_le _
 | x :: r=>by rw [tsL,List.length_cons,tsT_eq]; have:=tlen r; omega
theorem tdL_cons {x:Tree} {r:List Tree} {n:Nat} (h:tdL (x :: r) < n + 1):tdT x < n∧tdL r < n + 1:=by rw [tdL] at h; omega
theorem tcount_eq:∀ (n:Nat) (t:Tree) (m:Int),tdT t < n→twT t = true→0≤m→m≤1000000→ref01_count n t m = some (min (tsT t:Int) (m + 1)):=by
 intro n
 induction n with
 | zero=>intro t m hd; omega
 | succ n ih =>
  intro t m hd hw h1 h2
  rw [twT_eq] at hw
  simp only [Bool.and_eq_true,decide_eq_true_eq] at hw
  rw [tdT_eq] at hd
  rw [ref01_count,rangeL,if_pos hw.1]
  suffices H:∀ (l:List Tree) (i:Nat) (c:Nat) (k:Int→Option Int),1≤c→tdL l < n + 1→twL l = true→rangeC (fun i1 x1 (s1:Int) n1=>if s1≤m then (ref01_count n x1 (w64 (m - s1))).bind fun v1=>n1 (w64 (s1 + v1)) else n1 s1) l i (min (c:Int) (m + 1)) k = k (min ((c + tsL l:Nat):Int) (m + 1)) by
   have:=H t.Kids 0 1 (fun s=>some s) (by omega) hd hw.2
   rw [show min ((1:Nat):Int) (m + 1) = 1 by omega] at this
   rw [this,tsT_eq]
  intro l
  induction l with
  | nil=>intro i c k _ _ _; rw [rangeC,tsL]; rfl
  | cons x r ihr =>
   intro i c k hc hd hw
   obtain ⟨d1,d2⟩:=tdL_cons hd
   rw [twL,Bool.and_eq_true] at hw
   rw [rangeC]
   by_cases cc:min (c:Int) (m + 1)≤m
   ·rw [if_pos cc]
    have e:min (c:Int) (m + 1) = c:=by omega
    rw [e,w64_eq (n:=m - c) (by omega) (by omega),ih x _ d1 hw.1 (by omega) (by omega)]
    show rangeC _ r (i + 1) (w64 (c + min (tsT x:Int) (m - c + 1))) k = _
    rw [w64_eq (by omega) (by omega)]
    have:=ihr (i + 1) (c + tsT x) k (by omega) d2 hw.2
    rw [show (c:Int) + min (tsT x:Int) (m - c + 1) = min ((c + tsT x:Nat):Int) (m + 1) by omega,this,tsL]
    congr 2; omega
   ·rw [if_neg cc]
    show rangeC _ r (i + 1) (min (c:Int) (m + 1)) k = _
    have:=ihr (i + 1) (c + tsT x) k (by omega) d2 hw.2
    rw [show min (c:Int) (m + 1) = min ((c + tsT x:Nat):Int) (m + 1) by omega,this,tsL]
    congr 2; omega
theorem tfew_eq {n:Nat} {t:Tree} {m:Int} (hd:tdT t < n) (hw:twT t = true) (h1:0≤m) (h2:m≤1000000):ref01_Few n t m = some (decide ((tsT t:Int)≤m)):=by
 rw [ref01_Few,tcount_eq n t m hd hw h1 h2]
 show some _ = some _
 congr 1
 exact decide_eq_decide.2 (by omega)
def ord (a b:Int):Int:=if a < b then -1 else if b < a then 1 else 0
def lexF (f:Tree→Tree→Int):List Tree→List Tree→Int
 | [],[]=>0
 | [],_ :: _=>-1
 | _ :: _,[]=>1
 | a :: us,b :: bs=>if f a b = 0 then lexF f us bs else f a b
def cmpF:Nat→Tree→Tree→Int
 | 0,_,_=>0
 | n + 1,x,y=>if ord (tsT x) (tsT y) = 0 then (if ord x.Sym y.Sym = 0 then lexF (cmpF n) x.Kids y.Kids else ord x.Sym y.Sym) else ord (tsT x) (tsT y)
mutual
def mzN:Tree→tree_sized
 | .mk l k=>⟨l,1 + tsL k,mzL k⟩
def mzL:List Tree→List tree_sized
 | []=>[]
 | x :: r=>mzN x :: mzL r
end
theorem mzL_map:∀ l:List Tree,mzL l = l.map mzN
 | []=>by rw [mzL]; rfl
 | x :: r=>by rw [mzL,mzL_map r]; rfl
theorem mzN_eq (x:Tree):mzN x = ⟨x.Sym,tsT x,x.Kids.map mzN⟩:=by cases x; rw [mzN,mzL_map,tsT]; congr 1
theorem measure_eq:∀ (n:Nat) (x:Tree),tdT x < n→tsT x≤100000→tree_measure n x = some (mzN x):=by
 intro n
 induction n with
 | zero=>intro x hd; omega
 | succ n ih =>
  intro x hd hs
  have hk:=tlen x.Kids
  rw [tsT_eq] at hs
  rw [tree_measure,rangeL,if_pos (by omega)]
  suffices H:∀ (l:List Tree) (i:Nat) (t:Int) (q:List tree_sized) (k:Int×List tree_sized→Option tree_sized),tdL l < n + 1→0≤t→t + tsL l≤1000000→q.length + tsL l≤1000000→tsL l≤100000→rangeC (fun i1 x1 (s1:Int×(List tree_sized)) n1=>(tree_measure n x1).bind fun v1=>(app 40 s1.2 [v1]).bind fun v2=>n1 (w64 (s1.1 + v1.size),v2)) l i (t,q) k = k (t + tsL l,q ++ l.map mzN) by
   rw [H x.Kids 0 1 [] _ (by rw [tdT_eq] at hd; omega) (by omega) (by omega) (by simp only [List.length_nil]; omega) (by omega),mzN_eq,tsT_eq]
   rfl
  intro l
  induction l with
  | nil=>intro i t q k _ _ _ _ _; rw [rangeC,tsL]; simp
  | cons y r ihr =>
   intro i t q k h1 h2 h3 h4 h5
   obtain ⟨d1,d2⟩:=tdL_cons h1
   have hy:=tsT_eq y
   rw [tsL] at h3 h4 h5
   rw [rangeC,ih y d1 (by omega)]
   simp only [Option.bind_some]
   rw [app_ok (by simp only [List.length_cons,List.length_nil]; omega)]
   simp only [Option.bind_some]
   rw [mzN_eq]
   simp only []
   rw [w64_eq (by omega) (by omega),ihr _ _ _ _ d2 (by omega) (by omega) (by rw [List.length_append]; simp only [List.length_cons,List.length_nil]; omega) (by omega)]
   rw [tsL,List.map_cons,mzN_eq y,List.append_assoc]
   congr 2
   omega
theorem compare_int (a b:Int):cmp_Compare_int a b = some (ord a b):=by
 unfold cmp_Compare_int cmp_isNaN_int ord
 simp only [bne_self_eq_false,Option.bind_some]
 rw [if_neg (by decide),if_neg (by decide)]
 split
 ·rfl
 ·split <;> rfl
theorem or_int (a b:Int):cmp_Or_int [a,b] = some (if a = 0 then b else a):=by
 unfold cmp_Or_int rangeL
 rw [if_pos (by simp only [List.length_cons,List.length_nil]; omega)]
 simp only [rangeC]
 by_cases h:a = 0
 ·rw [if_pos h,if_pos h]
  by_cases h':b = 0
  ·rw [if_pos h',h']
  ·rw [if_neg h']
 ·rw [if_neg h,if_neg h]
theorem hcompare_eq:∀ (n:Nat) (x y:Tree),tdT x < n→tsT x≤100000→tsT y≤100000→tree_compare n (mzN x) (mzN y) = some (cmpF n x y):=by
 intro n
 induction n with
 | zero=>intro x y hd; omega
 | succ n ih =>
  intro x y hd hx hy
  have hk:=tlen x.Kids
  have hk':=tlen y.Kids
  rw [tree_compare,mzN_eq x,mzN_eq y]
  simp only []
  rw [compare_int,compare_int]
  simp only [Option.bind_some]
  rw [or_int,cmpF]
  simp only [Option.bind_some]
  by_cases c1:ord (tsT x) (tsT y) = 0
  ·rw [if_pos c1,if_pos c1]
   by_cases c2:ord x.Sym y.Sym = 0
   ·rw [if_pos c2,if_pos c2]
    rw [tsT_eq] at hx hy
    simp only [jn]
    rw [rangeL,if_pos (by rw [List.length_map]; omega)]
    suffices H:∀ (us bs pa pb:List Tree),pa.length = pb.length→x.Kids = pa ++ us→y.Kids = pb ++ bs→tdL us < n + 1→tsL us≤100000→tsL bs≤100000→rangeC (fun i1 (x1:tree_sized) (s1:Unit) n1=>if ((y.Kids.map mzN).length:Int)≤(i1:Int) then some 1 else ((y.Kids.map mzN)[i1]?).bind fun v4=>(tree_compare n x1 v4).bind fun v5=>if v5 = 0 then n1 () else some v5) (us.map mzN) pa.length () (fun _=>if ((x.Kids.map mzN).length:Int) < ((y.Kids.map mzN).length:Int) then some (-1) else some 0) = some (lexF (cmpF n) us bs) from
     H x.Kids y.Kids [] [] rfl rfl rfl (by rw [tdT_eq] at hd; exact hd) (by omega) (by omega)
    intro us
    induction us with
    | nil =>
     intro bs pa pb e1 e2 e3 _ _ _
     rw [List.map_nil,rangeC,List.length_map,List.length_map,e2,e3]
     cases bs with
     | nil=>rw [if_neg (by simp; omega),lexF]
     | cons b bs=>rw [if_pos (by simp; omega),lexF]
    | cons a us iha =>
     intro bs pa pb e1 e2 e3 h1 h2 h3
     obtain ⟨d1,d2⟩:=tdL_cons h1
     rw [tsL] at h2
     rw [List.map_cons,rangeC]
     cases bs with
     | nil=>rw [if_pos (by rw [List.length_map,e3]; simp; omega),lexF]
     | cons b bs =>
      rw [tsL] at h3
      have hb:(y.Kids.map mzN)[pa.length]? = some (mzN b):=by rw [List.getElem?_map,e3,e1,List.getElem?_append_right (Nat.le_refl _),Nat.sub_self]; rfl
      rw [if_neg (by rw [List.length_map,e3]; simp; omega),hb]
      simp only [Option.bind_some]
      rw [ih a b d1 (by omega) (by omega),lexF]
      simp only [Option.bind_some]
      by_cases c:cmpF n a b = 0
      ·rw [if_pos c,if_pos c]
       have:=iha bs (pa ++ [a]) (pb ++ [b]) (by simp [e1]) (by simp [e2]) (by simp [e3]) d2 (by omega) (by omega)
       rw [List.length_append] at this
       exact this
      ·rw [if_neg c,if_neg c]
   ·rw [if_neg c2,if_neg c2]
  ·rw [if_neg c1,if_neg c1,if_neg c1]
theorem Compare_eq {n:Nat} {x y:Tree} (dx:tdT x < n) (dy:tdT y < n) (sx:tsT x≤100000) (sy:tsT y≤100000):tree_Compare n x y = some (cmpF n x y):=by
 unfold tree_Compare
 rw [measure_eq n x dx sx,measure_eq n y dy sy]
 simp only [Option.bind_some]
 rw [hcompare_eq n x y dx sx sy]
 rfl
set_option linter.unusedVariables false
theorem tree_Size_eq:∀ (n:Nat) (t:Tree),tdT t < n→tsT t≤1000000→tree_Size n t = some (tsT t:Int):=by
 intro n
 induction n with
 | zero=>intro t hd; omega
 | succ n ih =>
  intro t hd hs
  rw [tdT_eq] at hd
  have hlen:=tlen t.Kids
  rw [tsT_eq] at hs
  rw [tree_Size,rangeL,if_pos (by omega)]
  suffices H:∀ (l:List Tree) (i:Nat) (s:Int) (k:Int→Option Int),tdL l < n + 1→1≤s→s + tsL l≤1000001→rangeC (fun i1 x1 (s1:Int) n1=>(tree_Size n x1).bind fun v1=>n1 (w64 (s1 + v1))) l i s k = k (s + tsL l) by
   rw [H t.Kids 0 1 _ hd (by omega) (by omega),tsT_eq]
   congr 1
  intro l
  induction l with
  | nil=>intro i s k _ _ _; rw [rangeC,tsL]; congr 1; simp
  | cons x r ihr =>
   intro i s k hd h0 h1
   obtain ⟨d1,d2⟩:=tdL_cons hd
   rw [tsL] at h1
   rw [rangeC,ih x d1 (by omega)]
   simp only [Option.bind_some]
   rw [w64_eq (by omega) (by omega),ihr _ _ _ d2 (by omega) (by omega),tsL]
   congr 1; omega
theorem ref01_Size_eq:∀ (n:Nat) (t:Tree),tdT t < n→tsT t≤1000000→ref01_Size n t = some (tsT t:Int):=by
 intro n
 induction n with
 | zero=>intro t hd; omega
 | succ n ih =>
  intro t hd hs
  rw [tdT_eq] at hd
  have hlen:=tlen t.Kids
  rw [tsT_eq] at hs
  rw [ref01_Size,rangeL,if_pos (by omega)]
  suffices H:∀ (l:List Tree) (i:Nat) (s:Int) (k:Int→Option Int),tdL l < n + 1→1≤s→s + tsL l≤1000001→rangeC (fun i1 x1 (s1:Int) n1=>(ref01_Size n x1).bind fun v1=>n1 (w64 (s1 + v1))) l i s k = k (s + tsL l) by
   rw [H t.Kids 0 1 _ hd (by omega) (by omega),tsT_eq]
   congr 1
  intro l
  induction l with
  | nil=>intro i s k _ _ _; rw [rangeC,tsL]; congr 1; simp
  | cons x r ihr =>
   intro i s k hd h0 h1
   obtain ⟨d1,d2⟩:=tdL_cons hd
   rw [tsL] at h1
   rw [rangeC,ih x d1 (by omega)]
   simp only [Option.bind_some]
   rw [w64_eq (by omega) (by omega),ihr _ _ _ d2 (by omega) (by omega),tsL]
   congr 1; omega
mutual
theorem td_le:∀ t:Tree,tdT t + 1≤tsT t
 | .mk s k=>by rw [tdT,tsT]; have:=tdL_le k; omega
theorem tdL_le:∀ l:List Tree,tdL l≤tsL l
 | []=>by rw [tdL,tsL]; exact Nat.le_refl _
 | x :: r=>by rw [tdL,tsL]; have:=td_le x; have:=tdL_le r; omega
end
set_option linter.unusedVariables false
def rk (r:List Int) (s:Int):Int:=(r[s.toNat]?).getD 0
theorem rk_get {r:List Int} {s:Int} (h0:0≤s) (h1:s < r.length):idx r s = some (rk r s):=by
 unfold idx rk
 rw [if_pos h0,List.getElem?_eq_getElem (by omega)]; rfl
mutual
def shT (r:List Int):Tree→Bool
 | .mk s k=>decide (0≤s∧s < r.length∧(k.length:Int) = rk r s) && shL r k
def shL (r:List Int):List Tree→Bool
 | []=>true
 | x :: q=>shT r x && shL r q
end
theorem shT_eq (r:List Int) (t:Tree):shT r t = (decide (0≤t.Sym∧t.Sym < r.length∧(t.Kids.length:Int) = rk r t.Sym) && shL r t.Kids):=by cases t; rw [shT]
theorem tw_out {t:Tree} (h:twT t = true):t.Kids.length < 9223372036854775808∧twL t.Kids = true:=by
 rw [twT_eq] at h; simpa only [Bool.and_eq_true,decide_eq_true_eq] using h
theorem tw_cons {x:Tree} {q:List Tree} (h:twL (x :: q) = true):twT x = true∧twL q = true:=by
 rw [twL] at h; simpa only [Bool.and_eq_true] using h
theorem tformed_eq (r:List Int):∀ (n:Nat) (t:Tree) (m:Int),tdT t < n→twT t = true→0≤m→m≤1000000 →
 (((tsT t:Int)≤m∧shT r t = true)∧tree_formed n ⟨r⟩ t m = some (true,m - tsT t))∨(¬ ((tsT t:Int)≤m∧shT r t = true)∧∃ v,tree_formed n ⟨r⟩ t m = some (false,v)):=by
 intro n
 induction n with
 | zero=>intro t m hd; omega
 | succ n ih =>
  intro t m hd hw h1 h2
  obtain ⟨w1,w2⟩:=tw_out hw
  rw [tree_formed,shT_eq,tsT_eq]
  simp only [Bool.and_eq_true,decide_eq_true_eq]
  have e1:w64 (m - 1) = m - 1:=w64_eq (by omega) (by omega)
  rw [e1]
  by_cases c1:m - 1 < 0
  ·exact .inr ⟨by omega,_,by rw [if_pos c1]⟩
  rw [if_neg c1]
  by_cases c2:t.Sym < 0
  ·exact .inr ⟨by omega,_,by rw [if_pos c2]⟩
  rw [if_neg c2]
  by_cases c3:(r.length:Int)≤t.Sym
  ·exact .inr ⟨by omega,_,by rw [if_pos c3]⟩
  rw [if_neg c3,rk_get (by omega) (by omega)]
  simp only [Option.bind_some]
  by_cases c4:(t.Kids.length:Int) = rk r t.Sym
  ·rw [if_pos c4]
   rw [rangeL,if_pos w1]
   rw [tdT_eq] at hd
   suffices H:∀ (l:List Tree) (i:Nat) (s:Int),tdL l < n + 1→twL l = true→0≤s→s≤1000000 →
    (((tsL l:Int)≤s∧shL r l = true)∧∀ k:Int→Option (Bool×Int),rangeC (fun i1 x1 (s1:Int) n1=>(tree_formed n ⟨r⟩ x1 s1).bind fun v2=>if v2.1 = true then n1 v2.2 else some (false,v2.2)) l i s k = k (s - tsL l)) ∨
    (¬ ((tsL l:Int)≤s∧shL r l = true)∧∃ v,∀ k:Int→Option (Bool×Int),rangeC (fun i1 x1 (s1:Int) n1=>(tree_formed n ⟨r⟩ x1 s1).bind fun v2=>if v2.1 = true then n1 v2.2 else some (false,v2.2)) l i s k = some (false,v)) by
    rcases H t.Kids 0 (m - 1) hd w2 (by omega) (by omega) with ⟨c,e⟩ | ⟨c,v,e⟩
    ·exact .inl ⟨⟨by omega,⟨by omega,by omega,c4⟩,c.2⟩,by rw [e]; congr 2; omega⟩
    ·exact .inr ⟨fun hh=>c ⟨by omega,hh.2.2⟩,v,e _⟩
   intro l
   induction l with
   | nil=>intro i s _ _ h1 h2; exact .inl ⟨⟨by rw [tsL]; exact h1,by rw [shL]⟩,fun k=>by rw [rangeC,tsL]; congr 1; simp⟩
   | cons x q ihr =>
    intro i s hd hw h1 h2
    obtain ⟨d1,d2⟩:=tdL_cons hd
    obtain ⟨v1,v2⟩:=tw_cons hw
    rw [tsL,shL]
    simp only [Bool.and_eq_true,rangeC]
    rcases ih x s d1 v1 h1 h2 with ⟨c,e⟩ | ⟨c,v,e⟩
    ·rcases ihr (i + 1) (s - tsT x) d2 v2 (by omega) (by omega) with ⟨c',e'⟩ | ⟨c',v,e'⟩
     ·exact .inl ⟨⟨by omega,c.2,c'.2⟩,fun k=>by rw [e]; simp only [Option.bind_some,if_true]; rw [e' k]; congr 1; omega⟩
     ·exact .inr ⟨fun hh=>c' ⟨by omega,hh.2.2⟩,v,fun k=>by rw [e]; simp only [Option.bind_some,if_true]; rw [e' k]⟩
    ·exact .inr ⟨fun hh=>c ⟨by omega,hh.2.1⟩,v,fun k=>by rw [e]; rfl⟩
  ·rw [if_neg c4]
   exact .inr ⟨fun hh=>c4 hh.2.1.2.2,_,rfl⟩
theorem shaped_eq (r:List Int):∀ (n:Nat) (t:Tree),tdT t < n→twT t = true→ref01_shaped n ⟨r⟩ t = some (shT r t):=by
 intro n
 induction n with
 | zero=>intro t hd; omega
 | succ n ih =>
  intro t hd hw
  obtain ⟨w1,w2⟩:=tw_out hw
  rw [ref01_shaped,shT_eq]
  by_cases c2:t.Sym < 0
  ·rw [if_pos c2,decide_eq_false (by omega)]; rfl
  rw [if_neg c2]
  by_cases c3:(r.length:Int)≤t.Sym
  ·simp only [] at c3 ⊢
   rw [if_pos c3,decide_eq_false (by omega)]; rfl
  have c3':¬ (r.length:Int)≤t.Sym:=c3
  rw [if_neg c3,show idx (Alphabet.mk r).Ranks t.Sym = some (rk r t.Sym) from rk_get (r:=r) (Int.not_lt.1 c2) (Int.not_le.1 c3')]
  simp only [Option.bind_some]
  by_cases c4:(t.Kids.length:Int) = rk r t.Sym
  ·rw [if_pos c4,rangeL,if_pos w1,decide_eq_true ⟨Int.not_lt.1 c2,Int.not_le.1 c3',c4⟩,Bool.true_and]
   rw [tdT_eq] at hd
   suffices H:∀ (l:List Tree) (i:Nat),tdL l < n + 1→twL l = true→rangeC (fun i1 x1 (s1:Unit) n1=>(ref01_shaped n ⟨r⟩ x1).bind fun v2=>if v2 = true then n1 () else some false) l i () (fun _=>some true) = some (shL r l) from H t.Kids 0 hd w2
   intro l
   induction l with
   | nil=>intro i _ _; rw [rangeC,shL]
   | cons x q ihr =>
    intro i hd hw
    obtain ⟨d1,d2⟩:=tdL_cons hd
    obtain ⟨v1,v2⟩:=tw_cons hw
    rw [rangeC,ih x d1 v1,shL]
    simp only [Option.bind_some]
    cases shT r x with
    | true=>rw [if_pos rfl,ihr (i + 1) d2 v2]; rfl
    | false=>rfl
  ·rw [if_neg c4,decide_eq_false (fun hh=>c4 hh.2.2)]; rfl
def vA (r:List Int):Bool:=decide (r.length≤12) && r.all fun x=>decide (0≤x∧x≤3)
theorem hvA (r:List Int):tree_ValidAlphabet ⟨r⟩ = some (vA r):=by
 unfold tree_ValidAlphabet vA
 simp only []
 by_cases c:(r.length:Int)≤12
 ·rw [if_pos c,decide_eq_true (by omega:r.length≤12),Bool.true_and]
  simp only [jn]
  rw [rangeL,if_pos (by omega)]
  suffices H:∀ (l:List Int) (i:Nat),rangeC (fun i1 (x1:Int) (s1:Unit) n1=>(tree_ValidAlphabet_1 x1).bind fun v1=>if v1 = true then some (!decide ((0:Int)≤(i1:Int))) else n1 ()) l i () (fun _=>some (!decide ((0:Int)≤-1))) = some (l.all fun x=>decide (0≤x∧x≤3)) from H r 0
  intro l
  induction l with
  | nil=>intro i; rw [rangeC]; rfl
  | cons x q ih =>
   intro i
   rw [rangeC,List.all_cons]
   unfold tree_ValidAlphabet_1
   by_cases c1:x < 0
   ·rw [if_pos c1,decide_eq_false (by omega:¬ (0≤x∧x≤3))]
    simp only [Option.bind_some,if_true]
    rw [decide_eq_true (by omega:(0:Int)≤(i:Int))]; rfl
   ·rw [if_neg c1]
    simp only [Option.bind_some]
    by_cases c2:3 < x
    ·rw [decide_eq_true c2,decide_eq_false (by omega:¬ (0≤x∧x≤3)),if_pos rfl,decide_eq_true (by omega:(0:Int)≤(i:Int))]; rfl
    ·rw [decide_eq_false c2,decide_eq_true (by omega:0≤x∧x≤3),if_neg (by decide),Bool.true_and]
     exact ih (i + 1)
 ·rw [if_neg c,decide_eq_false (by omega:¬ r.length≤12)]; rfl
theorem rvA (r:List Int):ref01_ValidAlphabet ⟨r⟩ = some (vA r):=by
 unfold ref01_ValidAlphabet vA
 simp only []
 by_cases c:12 < (r.length:Int)
 ·rw [if_pos c,decide_eq_false (by omega:¬ r.length≤12)]; rfl
 ·rw [if_neg c,decide_eq_true (by omega:r.length≤12),Bool.true_and,rangeL,if_pos (by omega)]
  suffices H:∀ (l:List Int) (i:Nat),rangeC (fun i1 (x1:Int) (s1:Unit) n1=>if x1 < 0 then some false else if 3 < x1 then some false else n1 ()) l i () (fun _=>some true) = some (l.all fun x=>decide (0≤x∧x≤3)) from H r 0
  intro l
  induction l with
  | nil=>intro i; rw [rangeC]; rfl
  | cons x q ih =>
   intro i
   rw [rangeC,List.all_cons]
   by_cases c1:x < 0
   ·rw [if_pos c1,decide_eq_false (by omega:¬ (0≤x∧x≤3))]; rfl
   ·rw [if_neg c1]
    by_cases c2:3 < x
    ·rw [if_pos c2,decide_eq_false (by omega:¬ (0≤x∧x≤3))]; rfl
    ·rw [if_neg c2,decide_eq_true (by omega:0≤x∧x≤3),Bool.true_and]
     exact ih (i + 1)
def tvld (r:List Int) (t:Tree):Bool:=vA r && (decide ((tsT t:Int)≤300) && shT r t)
theorem tvalid_eq (r:List Int) {n:Nat} {t:Tree} (hd:tdT t < n) (hw:twT t = true):tree_Valid n ⟨r⟩ t = some (tvld r t):=by
 unfold tree_Valid tvld
 rw [hvA]
 simp only [Option.bind_some]
 cases vA r with
 | false=>rfl
 | true =>
  rw [if_pos rfl,Bool.true_and]
  rcases tformed_eq r n t 300 hd hw (by omega) (by omega) with ⟨c,e⟩ | ⟨c,v,e⟩
  ·rw [e,decide_eq_true c.1,c.2]; rfl
  ·rw [e]
   simp only [Option.bind_some]
   congr 1
   cases h1:shT r t with
   | false=>simp
   | true=>rw [decide_eq_false (fun h2=>c ⟨h2,h1⟩)]; rfl
theorem rtvalid_eq (r:List Int) {n:Nat} {t:Tree} (hd:tdT t < n) (hw:twT t = true):ref01_Valid n ⟨r⟩ t = some (tvld r t):=by
 unfold ref01_Valid tvld
 rw [rvA]
 simp only [Option.bind_some]
 cases vA r with
 | false=>rfl
 | true =>
  rw [if_pos rfl,Bool.true_and,tfew_eq hd hw (by omega) (by omega)]
  simp only [Option.bind_some]
  by_cases c3:(tsT t:Int)≤300
  ·rw [decide_eq_true c3,if_pos rfl,shaped_eq r n t hd hw]; rfl
  ·rw [decide_eq_false c3]; rfl
set_option linter.unusedVariables false
set_option linter.unusedVariables false
end Go.AM.S22

namespace Go.AM.S22
open Go Go.Proofs Go.AM
set_option linter.unusedVariables false
def allI {α:Type} (ok:Nat→α→Bool):Nat→List α→Bool
 | _,[]=>true
 | i,x :: r=>ok i x && allI ok (i + 1) r
theorem chk {α R:Type} {body:Nat→α→Unit→(Unit→Option R)→Option R} {ok:Nat→α→Bool} {f:Option R}:∀ (l:List α) (i:Nat) (k:Unit→Option R),(∀ j x n1,l[j]? = some x→body (i + j) x () n1 = if ok (i + j) x = true then n1 () else f) →
 rangeC body l i () k = if allI ok i l = true then k () else f
 | [],i,k,_=>by rw [rangeC,allI,if_pos rfl]
 | x :: l,i,k,h=>by
  have h0:=h 0 x (fun u=>rangeC body l (i + 1) u k) rfl
  rw [Nat.add_zero] at h0
  rw [rangeC,allI]
  rw [show (fun s'=>rangeC body l (i + 1) s' k) = (fun u=>rangeC body l (i + 1) u k) from rfl,h0]
  cases hk:ok i x with
  | false=>simp
  | true =>
   simp only [if_true,Bool.true_and]
   exact chk l (i + 1) k (fun j y n1 hj=>by have:=h (j + 1) y n1 (by simpa using hj); rwa [show i + (j + 1) = i + 1 + j by omega] at this)
theorem allI_all {α:Type} {ok:α→Bool}:∀ (l:List α) (i:Nat),allI (fun _ x=>ok x) i l = l.all ok
 | [],_=>rfl
 | x :: l,i=>by rw [allI,allI_all l,List.all_cons]
def stOk (m s:Int):Bool:=decide (0≤s∧s < m)
def rOk (r:List Int) (m:Int) (x:Rule):Bool:=decide (0≤x.Sym∧x.Sym < r.length∧(x.From.length:Int) = rk r x.Sym) && (stOk m x.To && x.From.all (stOk m))
def fOk (F:List Int) (m:Int) (i:Nat) (x:Int):Bool:=stOk m x && (decide (i = 0) || decide ((F[i - 1]?).getD 0 < x))
def aV (r:List Int) (a:Automaton):Bool:=vA r && (decide (0≤a.States∧a.States≤300∧(a.Rules.length:Int)≤20000) && (allI (fOk a.Final a.States) 0 a.Final && a.Rules.all (rOk r a.States)))
structure AW (a:Automaton):Prop where
 fin:a.Final.length < 9223372036854775808
 rul:a.Rules.length < 9223372036854775808
 frm:∀ x∈a.Rules,x.From.length < 9223372036854775808
theorem idx_prev {F:List Int} {i:Nat} {x:Int} (h:F[i]? = some x) (hi:0 < i) (hl:F.length < 9223372036854775808):idx F (w64 ((i:Int) - 1)) = some ((F[i - 1]?).getD 0):=by
 have hlt:=(List.getElem?_eq_some_iff.1 h).1
 rw [w64_eq (by omega) (by omega)]
 unfold idx
 rw [if_pos (by omega),show ((i:Int) - 1).toNat = i - 1 by omega,List.getElem?_eq_getElem (by omega)]
 rfl
theorem auto_eq (r:List Int) (a:Automaton) (w:AW a):auto_Valid ⟨r⟩ a = some (aV r a):=by
 unfold auto_Valid aV
 rw [hvA]
 simp only [Option.bind_some]
 cases vA r with
 | false=>rfl
 | true =>
  simp only [if_true,Bool.true_and]
  by_cases c1:a.States < 0
  ·rw [if_pos c1,decide_eq_false (by omega)]; rfl
  rw [if_neg c1]
  by_cases c2:300 < a.States
  ·rw [if_pos c2,decide_eq_false (by omega)]; rfl
  rw [if_neg c2]
  by_cases c3:20000 < (a.Rules.length:Int)
  ·rw [if_pos c3,decide_eq_false (by omega)]; rfl
  rw [if_neg c3,decide_eq_true (by omega),Bool.true_and]
  rw [rangeL,if_pos w.fin]
  rw [chk (ok:=fOk a.Final a.States) (f:=some false) a.Final 0 _ (fun j x n1 hj=>by
   rw [Nat.zero_add]
   unfold jn fOk stOk
   dsimp only
   by_cases d1:0≤x
   ·rw [if_pos d1]
    by_cases d2:x < a.States
    ·rw [decide_eq_true d2,if_pos rfl,decide_eq_true (⟨d1,d2⟩:0≤x∧x < a.States),Bool.true_and]
     by_cases d3:0 < (j:Int)
     ·rw [if_pos d3,idx_prev hj (by omega) w.fin,decide_eq_false (show ¬ j = 0 by omega),Bool.false_or]
      simp only [Option.bind_some]
      by_cases d4:x≤(a.Final[j - 1]?).getD 0
      ·rw [if_pos d4,decide_eq_false (by omega)]; rfl
      ·rw [if_neg d4,decide_eq_true (by omega)]; rfl
     ·rw [if_neg d3,decide_eq_true (show j = 0 by omega)]; rfl
    ·rw [decide_eq_false d2,decide_eq_false (show ¬ (0≤x∧x < a.States) from fun h=>d2 h.2)]; rfl
   ·rw [if_neg d1,decide_eq_false (show ¬ (0≤x∧x < a.States) from fun h=>d1 h.1)]; rfl)]
  cases allI (fOk a.Final a.States) 0 a.Final with
  | false=>rfl
  | true =>
   simp only [if_true,Bool.true_and]
   rw [rangeL,if_pos w.rul]
   rw [chk (ok:=fun _ x=>rOk r a.States x) (f:=some false) a.Rules 0 _ (fun j x n1 hj=>by
    have hx:=List.mem_of_getElem? hj
    unfold rOk
    by_cases d1:x.Sym < 0
    ·rw [if_pos d1,decide_eq_false (fun h=>by omega)]; rfl
    rw [if_neg d1]
    by_cases d2:(r.length:Int)≤x.Sym
    ·rw [if_pos d2,decide_eq_false (fun h=>by omega)]; rfl
    rw [if_neg d2,rk_get (by omega) (by omega)]
    simp only [Option.bind_some]
    by_cases d3:(x.From.length:Int) = rk r x.Sym
    ·rw [if_pos d3,decide_eq_true (show 0≤x.Sym∧x.Sym < (r.length:Int)∧(x.From.length:Int) = rk r x.Sym from ⟨by omega,by omega,d3⟩),Bool.true_and]
     unfold jn
     dsimp only
     have hfr:rangeL x.From () (fun k4 i4 x4 (s4:Unit) n4=>if 0≤x4 then (if decide (x4 < a.States) = true then n4 () else some false) else (if false = true then n4 () else some false)) (fun s4=>n1 ()) = if x.From.all (stOk a.States) = true then n1 () else some false:=by
      rw [rangeL,if_pos (w.frm x hx)]
      rw [chk (ok:=fun _ s=>stOk a.States s) (f:=some false) x.From 0 _ (fun j y n1 _=>by
       unfold stOk
       by_cases e1:0≤y
       ·by_cases e2:y < a.States
        ·simp [e1,e2]
        ·simp [e1,e2]
       ·simp [e1]),allI_all]
     by_cases d4:0≤x.To
     ·rw [if_pos d4]
      by_cases d5:x.To < a.States
      ·rw [decide_eq_true d5,if_pos rfl]
       rw [show stOk a.States x.To = true from decide_eq_true ⟨d4,d5⟩,Bool.true_and]
       exact hfr
      ·rw [decide_eq_false d5,show stOk a.States x.To = false from decide_eq_false (fun h=>d5 h.2)]; rfl
     ·rw [if_neg d4,show stOk a.States x.To = false from decide_eq_false (fun h=>d4 h.1)]; rfl
    ·rw [if_neg d3,decide_eq_false (show ¬ (0≤x.Sym∧x.Sym < (r.length:Int)∧(x.From.length:Int) = rk r x.Sym) from fun h=>d3 h.2.2)]; rfl),allI_all]
   cases a.Rules.all (rOk r a.States) <;> rfl
theorem rauto_eq (r:List Int) (a:Automaton) (w:AW a):ref03_Valid ⟨r⟩ a = some (aV r a):=by
 unfold ref03_Valid aV
 rw [rvA]
 simp only [Option.bind_some]
 cases vA r with
 | false=>rfl
 | true =>
  simp only [if_true,Bool.true_and]
  by_cases c1:a.States < 0
  ·rw [if_pos c1,decide_eq_false (by omega)]; rfl
  rw [if_neg c1]
  by_cases c2:300 < a.States
  ·rw [if_pos c2,decide_eq_false (by omega)]; rfl
  rw [if_neg c2]
  by_cases c3:20000 < (a.Rules.length:Int)
  ·rw [if_pos c3,decide_eq_false (by omega)]; rfl
  rw [if_neg c3,decide_eq_true (by omega),Bool.true_and]
  rw [rangeL,if_pos w.fin]
  rw [chk (ok:=fOk a.Final a.States) (f:=some false) a.Final 0 _ (fun j x n1 hj=>by
   rw [Nat.zero_add]
   unfold fOk stOk
   by_cases d1:x < 0
   ·rw [if_pos d1,decide_eq_false (show ¬ (0≤x∧x < a.States) from fun h=>by omega)]; rfl
   rw [if_neg d1]
   by_cases d2:a.States≤x
   ·rw [if_pos d2,decide_eq_false (show ¬ (0≤x∧x < a.States) from fun h=>by omega)]; rfl
   rw [if_neg d2,decide_eq_true (show 0≤x∧x < a.States by omega),Bool.true_and]
   by_cases d3:0 < (j:Int)
   ·rw [if_pos d3,idx_prev hj (by omega) w.fin,decide_eq_false (show ¬ j = 0 by omega),Bool.false_or]
    simp only [Option.bind_some]
    by_cases d4:x≤(a.Final[j - 1]?).getD 0
    ·rw [if_pos d4,decide_eq_false (by omega)]; rfl
    ·rw [if_neg d4,decide_eq_true (by omega)]; rfl
   ·rw [if_neg d3,decide_eq_true (show j = 0 by omega)]; rfl)]
  cases allI (fOk a.Final a.States) 0 a.Final with
  | false=>rfl
  | true =>
   simp only [if_true,Bool.true_and]
   rw [rangeL,if_pos w.rul]
   rw [chk (ok:=fun _ x=>rOk r a.States x) (f:=some false) a.Rules 0 _ (fun j x n1 hj=>by
    have hx:=List.mem_of_getElem? hj
    unfold rOk
    by_cases d1:x.Sym < 0
    ·rw [if_pos d1,decide_eq_false (fun h=>by omega)]; rfl
    rw [if_neg d1]
    by_cases d2:(r.length:Int)≤x.Sym
    ·rw [if_pos d2,decide_eq_false (fun h=>by omega)]; rfl
    rw [if_neg d2,rk_get (by omega) (by omega)]
    simp only [Option.bind_some]
    by_cases d3:(x.From.length:Int) = rk r x.Sym
    ·rw [if_pos d3,decide_eq_true (show 0≤x.Sym∧x.Sym < (r.length:Int)∧(x.From.length:Int) = rk r x.Sym from ⟨by omega,by omega,d3⟩),Bool.true_and]
     by_cases d4:x.To < 0
     ·rw [if_pos d4,show stOk a.States x.To = false from decide_eq_false (fun h=>by omega)]; rfl
     rw [if_neg d4]
     by_cases d5:a.States≤x.To
     ·rw [if_pos d5,show stOk a.States x.To = false from decide_eq_false (fun h=>by omega)]; rfl
     rw [if_neg d5,show stOk a.States x.To = true from decide_eq_true ⟨by omega,by omega⟩,Bool.true_and,rangeL,if_pos (w.frm x hx)]
     rw [chk (ok:=fun _ s=>stOk a.States s) (f:=some false) x.From 0 _ (fun j y n1 _=>by
      unfold stOk
      by_cases e1:y < 0
      ·rw [if_pos e1,decide_eq_false (fun h=>by omega)]; rfl
      rw [if_neg e1]
      by_cases e2:a.States≤y
      ·rw [if_pos e2,decide_eq_false (fun h=>by omega)]; rfl
      rw [if_neg e2,decide_eq_true ⟨by omega,by omega⟩]; rfl),allI_all]
    ·rw [if_neg d3,decide_eq_false (show ¬ (0≤x.Sym∧x.Sym < (r.length:Int)∧(x.From.length:Int) = rk r x.Sym) from fun h=>d3 h.2.2)]; rfl),allI_all]
   cases a.Rules.all (rOk r a.States) <;> rfl
def fewB (r:List Int) (a:Automaton) (t:Tree):Bool:=decide ((tsT t:Int)≤80) && (a.Rules.all (fun x=>decide (x.From.length≤30)) && (decide (r.length≤60) && ((decide (a.States≤40) || decide (300 < a.States)) && (decide (a.Rules.length≤400) && decide (a.Final.length≤400)))))
theorem few_eq {n:Nat} (r:List Int) (a:Automaton) (t:Tree) (w:AW a) (hd:tdT t < n) (hw:twT t = true):law22_few n ⟨r⟩ a [t] = some (fewB r a t):=by
 unfold law22_few fewB
 rw [rangeL,if_pos (by simp only [List.length_cons,List.length_nil]; omega)]
 simp only [rangeC]
 rw [tfew_eq hd hw (by omega) (by omega)]
 simp only [Option.bind_some]
 cases decide ((tsT t:Int)≤80) with
 | false=>rfl
 | true =>
  simp only [if_true,Bool.true_and]
  rw [rangeL,if_pos w.rul]
  rw [chk (ok:=fun _ x=>decide (x.From.length≤30)) (f:=some false) a.Rules 0 _ (fun j x n1 hj=>by
   by_cases e:30 < (x.From.length:Int)
   ·rw [if_pos e,decide_eq_false (by omega)]; rfl
   ·rw [if_neg e,decide_eq_true (by omega)]; rfl),allI_all]
  cases a.Rules.all (fun x=>decide (x.From.length≤30)) with
  | false=>rfl
  | true =>
   simp only [if_true,Bool.true_and]
   by_cases c1:(r.length:Int)≤60
   ·rw [if_pos c1,decide_eq_true (show r.length≤60 by omega),Bool.true_and]
    have e3:(if (a.Rules.length:Int)≤400 then some (decide ((a.Final.length:Int)≤400)) else some false) = some (decide (a.Rules.length≤400) && decide (a.Final.length≤400)):=by
     by_cases c3:(a.Rules.length:Int)≤400
     ·rw [if_pos c3,decide_eq_true (show a.Rules.length≤400 by omega),Bool.true_and]
      congr 1
      by_cases c4:a.Final.length≤400
      ·rw [decide_eq_true (by omega),decide_eq_true c4]
      ·rw [decide_eq_false (by omega),decide_eq_false c4]
     ·rw [if_neg c3,decide_eq_false (show ¬ a.Rules.length≤400 by omega)]; rfl
    by_cases c2:a.States≤40
    ·rw [if_pos c2,decide_eq_true c2,Bool.true_or,Bool.true_and]; exact e3
    ·rw [if_neg c2,decide_eq_false c2,Bool.false_or]
     by_cases c4:300 < a.States
     ·rw [if_pos c4,decide_eq_true c4,Bool.true_and]; exact e3
     ·rw [if_neg c4,decide_eq_false c4]; rfl
   ·rw [if_neg c1,decide_eq_false (show ¬ r.length≤60 by omega)]; rfl
end Go.AM.S22

namespace Go.AM.S22
open Go Go.Proofs Go.AM
set_option linter.unusedVariables false
theorem td_mem:∀ {l:List Tree} {x:Tree},x∈l→tdT x + 1≤tdL l
 | [],_,h=>by cases h
 | y :: l,x,h=>by
  rw [tdL]
  rcases List.mem_cons.1 h with rfl | h
  ·omega
  ·have:=td_mem h; omega
theorem ts_mem:∀ {l:List Tree} {x:Tree},x∈l→tsT x≤tsL l
 | [],_,h=>by cases h
 | y :: l,x,h=>by
  rw [tsL]
  rcases List.mem_cons.1 h with rfl | h
  ·omega
  ·have:=ts_mem h; omega
theorem foldC {α S R:Type} {body:Nat→α→S→(S→Option R)→Option R} {step:S→α→S} (I:S→Prop):∀ (l:List α) (i:Nat) (s:S) (k:S→Option R),I s→(∀ j x s n1,x∈l→I s→body j x s n1 = n1 (step s x))→(∀ x s,x∈l→I s→I (step s x)) →
 rangeC body l i s k = k (l.foldl step s)∧I (l.foldl step s)
 | [],i,s,k,h,_,_=>⟨by rw [rangeC]; rfl,h⟩
 | x :: l,i,s,k,h,hb,hi=>by
  have ih:=foldC I l (i + 1) (step s x) k (hi x s (by simp) h) (fun j y s n1 hy=>hb j y s n1 (List.mem_cons_of_mem _ hy)) (fun y s hy=>hi y s (List.mem_cons_of_mem _ hy))
  exact ⟨by rw [rangeC,hb i x s _ (by simp) h,List.foldl_cons]; exact ih.1,ih.2⟩
structure OKa (a:Automaton):Prop where
 st:0≤a.States∧a.States≤300
 rul:a.Rules.length≤400
 fin:a.Final.length≤400
 frm:∀ x∈a.Rules,x.From.length≤30
 to:∀ x∈a.Rules,0≤x.To∧x.To < a.States
 from':∀ x∈a.Rules,∀ s∈x.From,0≤s∧s < a.States
 fins:∀ s∈a.Final,0≤s∧s < a.States
theorem idx_get {m:Nat} {α:Type} {row:List α} {z:α} {x:Int} (hr:row.length = m) (h0:0≤x) (h1:x < (m:Int)):idx row x = some ((row[x.toNat]?).getD z):=by
 unfold idx
 rw [if_pos h0,List.getElem?_eq_getElem (by omega)]; rfl
theorem cut_eq {l base k:Nat} (hl:l = base + k) (hb:base≤500) (hk:k≤500):cutM l (w64 ((l:Int) - (k:Int))) = some base:=by
 rw [w64_eq (by omega) (by omega)]
 unfold cutM
 rw [if_pos (by omega)]
 congr 1
 omega
theorem allI_get {α:Type} {ok:Nat→α→Bool}:∀ (l:List α) (i:Nat),allI ok i l = true→∀ x∈l,∃ j,ok j x = true
 | [],_,_,x,h=>by cases h
 | y :: l,i,ha,x,h=>by
  rw [allI,Bool.and_eq_true] at ha
  rcases List.mem_cons.1 h with rfl | h
  ·exact ⟨i,ha.1⟩
  ·exact allI_get l (i + 1) ha.2 x h
theorem stOk_iff {m s:Int} (h:stOk m s = true):0≤s∧s < m:=of_decide_eq_true h
theorem ok_of {r:List Int} {a:Automaton} {t:Tree} (hv:aV r a = true) (hf:fewB r a t = true):OKa a:=by
 unfold aV at hv
 unfold fewB at hf
 simp only [Bool.and_eq_true,decide_eq_true_eq,List.all_eq_true,Bool.or_eq_true] at hv hf
 obtain ⟨v1,⟨v2,v3,v4⟩,v5,v6⟩:=hv
 obtain ⟨f1,f2,f3,f4,f5,f6⟩:=hf
 refine ⟨⟨v2,v3⟩,f5,f6,f2,fun x hx=>?_,fun x hx s hs=>?_,fun s hs=>?_⟩
 ·have:=v6 x hx
  unfold rOk at this
  simp only [Bool.and_eq_true] at this
  exact stOk_iff this.2.1
 ·have:=v6 x hx
  unfold rOk at this
  simp only [Bool.and_eq_true,List.all_eq_true] at this
  exact stOk_iff (this.2.2 s hs)
 ·obtain ⟨j,hj⟩:=allI_get _ _ v5 s hs
  unfold fOk at hj
  rw [Bool.and_eq_true] at hj
  exact stOk_iff hj.1
end Go.AM.S22

namespace Go.AM.S22.A3
open Go Go.Proofs Go.AM Go.AM.S22
set_option linter.unusedVariables false
set_option maxRecDepth 100000
set_option maxHeartbeats 4000000
theorem td_mem:∀ {l:List Tree} {x:Tree},x∈l→tdT x + 1≤tdL l
 | [],_,h=>by cases h
 | y :: l,x,h=>by
  rw [tdL]
  rcases List.mem_cons.1 h with rfl | h
  ·omega
  ·have:=td_mem h; omega
structure OKa (r:List Int) (a:Automaton):Prop where
 rk:r.length≤12
 st:0≤a.States∧a.States≤300
 rul:a.Rules.length≤400
 fin:a.Final.length≤400
 frm:∀ x∈a.Rules,x.From.length≤30
 sym:∀ x∈a.Rules,0≤x.Sym∧x.Sym < r.length∧(x.From.length:Int) = S22.rk r x.Sym
 to:∀ x∈a.Rules,0≤x.To∧x.To < a.States
 from':∀ x∈a.Rules,∀ s∈x.From,0≤s∧s < a.States
 fins:∀ s∈a.Final,0≤s∧s < a.States
mutual
def stT (a:Automaton):Tree→Int→Bool
 | .mk s ks,q=>a.Rules.any fun x=>decide (x.Sym = s∧x.To = q) && stL a ks x.From
def stL (a:Automaton):List Tree→List Int→Bool
 | [],_=>true
 | _ :: _,[]=>true
 | k :: ks,f :: fs=>stT a k f && stL a ks fs
end
theorem stT_eq (a:Automaton) (t:Tree) (q:Int):stT a t q = a.Rules.any fun x=>decide (x.Sym = t.Sym∧x.To = q) && stL a t.Kids x.From:=by cases t; rw [stT]
theorem sh_parts {r:List Int} {t:Tree} (h:shT r t = true):0≤t.Sym∧t.Sym < r.length∧(t.Kids.length:Int) = rk r t.Sym∧shL r t.Kids = true:=by
 rw [shT_eq,Bool.and_eq_true] at h
 have:=of_decide_eq_true h.1
 exact ⟨this.1,this.2.1,this.2.2,h.2⟩
theorem shL_cons {r:List Int} {t:Tree} {l:List Tree} (h:shL r (t :: l) = true):shT r t = true∧shL r l = true:=by
 rw [shL,Bool.and_eq_true] at h; exact h
end Go.AM.S22.A3

namespace Go.AM.S22
open Go Go.Proofs Go.AM
set_option linter.unusedVariables false
end Go.AM.S22

namespace Go.AM.S22
open Go Go.Proofs Go.AM
set_option linter.unusedVariables false
def plusI (a b:Int):Int:=if 4611686018427387904≤a + b then 4611686018427387904 else a + b
theorem eplus_eq {a b:Int} (a0:0≤a) (a1:a≤4611686018427387904) (b0:0≤b) (b1:b≤4611686018427387904):empty_plus a b = some (plusI a b):=by
 unfold empty_plus plusI
 by_cases c1:4611686018427387904≤a
 ·rw [if_pos c1,if_pos (by omega)]
 ·rw [if_neg c1]
  by_cases c2:4611686018427387904≤b
  ·rw [if_pos c2,if_pos (by omega)]
  ·rw [if_neg c2,w64_eq (by omega) (by omega)]
   unfold minI
   split <;> split <;> first | rfl | (congr 1; omega)
theorem rplus_eq {a b:Int} (a0:0≤a) (a1:a≤4611686018427387904) (b0:0≤b) (b1:b≤4611686018427387904):ref06_plus a b = some (plusI a b):=by
 unfold ref06_plus plusI
 rw [w64_eq (by omega) (by omega)]
 by_cases c1:4611686018427387904 - b < a
 ·rw [if_pos c1,if_pos (by omega)]
 ·rw [if_neg c1,w64_eq (by omega) (by omega)]
  split
  ·congr 1; omega
  ·rfl
def gz (v:List Int) (x:Int):Int:=(v[x.toNat]?).getD 0
def sumZ (v:List Int):List Int→Int→Int
 | [],s=>s
 | x :: xs,s=>if gz v x = 0 then 0 else sumZ v xs (plusI s (gz v x))
structure ZV (m:Nat) (v:List Int):Prop where
 len:v.length = m
 bd:∀ x∈v,0≤x∧x≤4611686018427387904
theorem ZV.gz {m:Nat} {v:List Int} (h:ZV m v) (x:Int):0≤gz v x∧gz v x≤4611686018427387904:=by
 unfold S22.gz
 cases e:v[x.toNat]? with
 | none=>simp
 | some y=>exact h.bd y (List.mem_of_getElem? e)
theorem ZV.idxM {m:Nat} {v:List Int} (h:ZV m v) {x:Int} (h0:0≤x) (h1:x < (m:Int)):idxM m v x = some (S22.gz v x):=by
 unfold Go.AM.idxM S22.gz
 rw [if_pos (by omega),List.getElem?_eq_getElem (by rw [h.len]; omega)]; rfl
theorem plusI_bd {a b:Int} (a0:1≤a) (b0:0≤b):1≤plusI a b∧plusI a b≤4611686018427387904:=by
 unfold plusI; split <;> omega
theorem sumZ_bd {m:Nat} {v:List Int} (h:ZV m v):∀ (xs:List Int) (s:Int),1≤s→s≤4611686018427387904→0≤sumZ v xs s∧sumZ v xs s≤4611686018427387904∧(0 < sumZ v xs s↔∀ x∈xs,0 < gz v x)
 | [],s,h1,h2=>by rw [sumZ]; exact ⟨by omega,h2,⟨fun _ _ h=>by (cases h),fun _=>by omega⟩⟩
 | x :: xs,s,h1,h2=>by
  have hg:=h.gz x
  rw [sumZ]
  by_cases c:gz v x = 0
  ·rw [if_pos c]
   refine ⟨by omega,by omega,⟨fun h=>by omega,fun h=>?_⟩⟩
   have:=h x (by simp)
   omega
  ·rw [if_neg c]
   have hb:=plusI_bd h1 hg.1
   obtain ⟨i1,i2,i3⟩:=sumZ_bd h xs (plusI s (gz v x)) hb.1 hb.2
   refine ⟨i1,i2,i3.trans ⟨fun h y hy=>?_,fun h y hy=>h y (List.mem_cons_of_mem _ hy)⟩⟩
   rcases List.mem_cons.1 hy with rfl | hy
   ·omega
   ·exact h y hy
theorem eInner {m:Nat} {v:List Int} (h:ZV m v) {R:Type} (F:Option R) (k:Int→Option R):∀ (xs:List Int) (i:Nat) (s:Int),(∀ x∈xs,0≤x∧x < (m:Int))→1≤s→s≤4611686018427387904 →
 rangeC (fun i13 x13 (s13:Int) n13=>(idxM m v x13).bind fun v4=>if v4 = 0 then F else (empty_plus s13 v4).bind fun v5=>n13 v5) xs i s k = if 0 < sumZ v xs s then k (sumZ v xs s) else F
 | [],i,s,_,h1,h2=>by rw [rangeC,sumZ,if_pos (by omega)]
 | x :: xs,i,s,hx,h1,h2=>by
  have hxx:=hx x (by simp)
  have hg:=h.gz x
  rw [rangeC,h.idxM hxx.1 hxx.2,sumZ]
  simp only [Option.bind_some]
  by_cases c:gz v x = 0
  ·rw [if_pos c,if_pos c,if_neg (by omega)]
  ·rw [if_neg c,if_neg c,eplus_eq (by omega) h2 hg.1 hg.2]
   simp only [Option.bind_some]
   have hb:=plusI_bd h1 hg.1
   exact eInner h F k xs (i + 1) _ (fun y hy=>hx y (List.mem_cons_of_mem _ hy)) hb.1 hb.2
theorem rInner {m:Nat} {v:List Int} (h:ZV m v) {R:Type} (k:Int→Option R):∀ (xs:List Int) (i:Nat) (s:Int),(∀ x∈xs,0≤x∧x < (m:Int))→1≤s→s≤4611686018427387904 →
 rangeC (fun i13 x13 (s13:Int) n13=>(idxM m v x13).bind fun v4=>if v4 = 0 then k 0 else (ref06_plus s13 v4).bind fun v5=>n13 v5) xs i s k = k (sumZ v xs s)
 | [],i,s,_,h1,h2=>by rw [rangeC,sumZ]
 | x :: xs,i,s,hx,h1,h2=>by
  have hxx:=hx x (by simp)
  have hg:=h.gz x
  rw [rangeC,h.idxM hxx.1 hxx.2,sumZ]
  simp only [Option.bind_some]
  by_cases c:gz v x = 0
  ·rw [if_pos c,if_pos c]
  ·rw [if_neg c,if_neg c,rplus_eq (by omega) h2 hg.1 hg.2]
   simp only [Option.bind_some]
   have hb:=plusI_bd h1 hg.1
   exact rInner h k xs (i + 1) _ (fun y hy=>hx y (List.mem_cons_of_mem _ hy)) hb.1 hb.2
def stepZ (s:Bool×List Int) (x:Rule):Bool×List Int :=
 if 0 < sumZ s.2 x.From 1 then (if gz s.2 x.To = 0 then (true,s.2.set x.To.toNat (sumZ s.2 x.From 1)) else if sumZ s.2 x.From 1 < gz s.2 x.To then (true,s.2.set x.To.toNat (sumZ s.2 x.From 1)) else (s.1,s.2)) else (s.1,s.2)
def passZ (a:Automaton) (v:List Int):Bool×List Int:=a.Rules.foldl stepZ (false,v)
theorem ZV.set {m:Nat} {v:List Int} (h:ZV m v) (i:Nat) {s:Int} (h0:0≤s) (h1:s≤4611686018427387904):ZV m (v.set i s) :=
 ⟨by rw [List.length_set,h.len],fun x hx=>by
  rcases List.mem_or_eq_of_mem_set hx with hx | rfl
  ·exact h.bd x hx
  ·exact ⟨h0,h1⟩⟩
theorem stepZ_ZV {m:Nat} {s:Bool×List Int} (h:ZV m s.2) (x:Rule):ZV m (stepZ s x).2:=by
 have hb:=sumZ_bd h x.From 1 (by omega) (by omega)
 unfold stepZ
 split
 ·split
  ·exact h.set _ hb.1 hb.2.1
  ·split
   ·exact h.set _ hb.1 hb.2.1
   ·exact h
 ·exact h
theorem foldZ_ZV {m:Nat}:∀ (l:List Rule) (s:Bool×List Int),ZV m s.2→ZV m (l.foldl stepZ s).2
 | [],_,h=>h
 | x :: l,s,h=>foldZ_ZV l _ (stepZ_ZV h x)
theorem passZ_ZV {m:Nat} {a:Automaton} {v:List Int} (h:ZV m v):ZV m (passZ a v).2:=foldZ_ZV _ _ h
def mesV:List Int→Nat
 | []=>0
 | x :: v=>(if x = 0 then 4611686018427387905 else x.toNat) + mesV v
theorem mes_set:∀ (v:List Int) (i:Nat) (x s:Int),v[i]? = some x→1≤s→s≤4611686018427387904→0≤x→(x = 0∨s < x)→mesV (v.set i s) < mesV v
 | [],i,x,s,h,_,_,_,_=>by simp at h
 | y :: v,0,x,s,h,h1,h2,h3,h4=>by
  have:y = x:=by simpa using h
  subst this
  rw [List.set_cons_zero,mesV,mesV,if_neg (by omega)]
  split <;> omega
 | y :: v,i + 1,x,s,h,h1,h2,h3,h4=>by
  have:=mes_set v i x s (by simpa using h) h1 h2 h3 h4
  rw [List.set_cons_succ,mesV,mesV]
  omega
theorem stepZ_mes {m:Nat} {s:Bool×List Int} (h:ZV m s.2) {x:Rule} (hx:0≤x.To∧x.To < (m:Int)):stepZ s x = s∨((stepZ s x).1 = true∧mesV (stepZ s x).2 < mesV s.2):=by
 have hb:=sumZ_bd h x.From 1 (by omega) (by omega)
 have hg:=h.gz x.To
 have he:s.2[x.To.toNat]? = some (gz s.2 x.To):=by
  unfold gz
  rw [List.getElem?_eq_getElem (by rw [h.len]; omega)]; rfl
 unfold stepZ
 by_cases c1:0 < sumZ s.2 x.From 1
 ·rw [if_pos c1]
  by_cases c2:gz s.2 x.To = 0
  ·rw [if_pos c2]
   exact .inr ⟨rfl,mes_set _ _ _ _ he (by omega) hb.2.1 hg.1 (.inl c2)⟩
  ·rw [if_neg c2]
   by_cases c3:sumZ s.2 x.From 1 < gz s.2 x.To
   ·rw [if_pos c3]
    exact .inr ⟨rfl,mes_set _ _ _ _ he (by omega) hb.2.1 hg.1 (.inr c3)⟩
   ·rw [if_neg c3]; exact .inl rfl
 ·rw [if_neg c1]; exact .inl rfl
theorem foldZ_mes {m:Nat}:∀ (l:List Rule) (s:Bool×List Int),ZV m s.2→(∀ x∈l,0≤x.To∧x.To < (m:Int))→l.foldl stepZ s = s∨((l.foldl stepZ s).1 = true∧mesV (l.foldl stepZ s).2 < mesV s.2)
 | [],s,_,_=>.inl rfl
 | x :: l,s,h,hx=>by
  rw [List.foldl_cons]
  have ih:=foldZ_mes l (stepZ s x) (stepZ_ZV h x) (fun y hy=>hx y (List.mem_cons_of_mem _ hy))
  rcases stepZ_mes h (hx x (by simp)) with e | ⟨e1,e2⟩
  ·rw [e] at ih ⊢; exact ih
  ·rcases ih with e3 | ⟨e3,e4⟩
   ·rw [e3]; exact .inr ⟨e1,e2⟩
   ·exact .inr ⟨e3,by omega⟩
theorem passZ_mes {m:Nat} {a:Automaton} {v:List Int} (h:ZV m v) (hx:∀ x∈a.Rules,0≤x.To∧x.To < (m:Int)):passZ a v = (false,v)∨((passZ a v).1 = true∧mesV (passZ a v).2 < mesV v):=foldZ_mes _ _ h hx
def posV (v:List Int):List Bool:=v.map fun x=>decide (0 < x)
def gb (b:List Bool) (x:Int):Bool:=(b[x.toNat]?).getD false
theorem gb_pos (v:List Int) (x:Int):gb (posV v) x = decide (0 < gz v x):=by
 unfold gb posV gz
 rw [List.getElem?_map]
 cases v[x.toNat]? with
 | none=>rfl
 | some y=>rfl
def bstep (b:List Bool) (x:Rule):List Bool:=if x.From.all (fun y=>gb b y) = true then b.set x.To.toNat true else b
def bpass (a:Automaton) (b:List Bool):List Bool:=a.Rules.foldl bstep b
theorem pos_step {m:Nat} {s:Bool×List Int} (h:ZV m s.2) {x:Rule} (hx:0≤x.To∧x.To < (m:Int)):posV (stepZ s x).2 = bstep (posV s.2) x:=by
 have hb:=sumZ_bd h x.From 1 (by omega) (by omega)
 have hg:=h.gz x.To
 have hall:(x.From.all (fun y=>gb (posV s.2) y) = true)↔0 < sumZ s.2 x.From 1:=by
  rw [hb.2.2,List.all_eq_true]
  constructor
  ·intro h y hy
   have:=h y hy
   rw [gb_pos] at this
   exact of_decide_eq_true this
  ·intro h y hy
   rw [gb_pos]
   exact decide_eq_true (h y hy)
 have hset:∀ q:Int,0 < q→posV (s.2.set x.To.toNat q) = (posV s.2).set x.To.toNat true:=fun q hq=>by
  unfold posV
  rw [List.map_set,decide_eq_true hq]
 unfold stepZ bstep
 by_cases c1:0 < sumZ s.2 x.From 1
 ·rw [if_pos c1,if_pos (hall.2 c1)]
  by_cases c2:gz s.2 x.To = 0
  ·rw [if_pos c2]; exact hset _ c1
  ·rw [if_neg c2]
   by_cases c3:sumZ s.2 x.From 1 < gz s.2 x.To
   ·rw [if_pos c3]; exact hset _ c1
   ·rw [if_neg c3]
    simp only []
    rw [← hset (gz s.2 x.To) (by omega)]
    congr 1
    unfold gz
    have hlt:x.To.toNat < s.2.length:=by rw [h.len]; omega
    rw [List.getElem?_eq_getElem hlt,Option.getD_some,List.set_getElem_self]
 ·rw [if_neg c1,if_neg (fun h=>c1 (hall.1 h))]
theorem pos_fold {m:Nat}:∀ (l:List Rule) (s:Bool×List Int),ZV m s.2→(∀ x∈l,0≤x.To∧x.To < (m:Int))→posV (l.foldl stepZ s).2 = l.foldl bstep (posV s.2)
 | [],_,_,_=>rfl
 | x :: l,s,h,hx=>by
  rw [List.foldl_cons,List.foldl_cons,← pos_step h (hx x (by simp))]
  exact pos_fold l _ (stepZ_ZV h x) (fun y hy=>hx y (List.mem_cons_of_mem _ hy))
theorem pos_pass {m:Nat} {a:Automaton} {v:List Int} (h:ZV m v) (hx:∀ x∈a.Rules,0≤x.To∧x.To < (m:Int)):posV (passZ a v).2 = bpass a (posV v):=pos_fold _ _ h hx
def cntB:List Bool→Nat
 | []=>0
 | x :: b=>(if x = true then 1 else 0) + cntB b
theorem cnt_le:∀ b,cntB b≤b.length
 | []=>by rw [cntB]; exact Nat.zero_le _
 | x :: b=>by rw [cntB,List.length_cons]; have:=cnt_le b; split <;> omega
theorem cnt_set:∀ (b:List Bool) (i:Nat),b.set i true = b∨cntB b < cntB (b.set i true)
 | [],i=>.inl rfl
 | x :: b,0=>by
  rw [List.set_cons_zero,cntB,cntB]
  cases x with
  | true=>exact .inl rfl
  | false=>exact .inr (by simp)
 | x :: b,i + 1=>by
  rw [List.set_cons_succ,cntB,cntB]
  rcases cnt_set b i with e | e
  ·rw [e]; exact .inl rfl
  ·exact .inr (by omega)
theorem cnt_step (b:List Bool) (x:Rule):bstep b x = b∨cntB b < cntB (bstep b x):=by
 unfold bstep
 split
 ·exact cnt_set _ _
 ·exact .inl rfl
theorem cnt_fold:∀ (l:List Rule) (b:List Bool),l.foldl bstep b = b∨cntB b < cntB (l.foldl bstep b)
 | [],_=>.inl rfl
 | x :: l,b=>by
  rw [List.foldl_cons]
  rcases cnt_step b x with e | e
  ·rw [e]; exact cnt_fold l b
  ·rcases cnt_fold l (bstep b x) with e2 | e2
   ·rw [e2]; exact .inr e
   ·exact .inr (by omega)
theorem cnt_pass (a:Automaton) (b:List Bool):bpass a b = b∨cntB b < cntB (bpass a b):=cnt_fold _ _
def bit (a:Automaton):Nat→List Bool→List Bool
 | 0,b=>b
 | j + 1,b=>bit a j (bpass a b)
theorem bit_add (a:Automaton):∀ (j k:Nat) (b:List Bool),bit a (j + k) b = bit a k (bit a j b)
 | 0,k,b=>by rw [Nat.zero_add,bit]
 | j + 1,k,b=>by rw [Nat.add_right_comm,bit,bit,bit_add a j k]
theorem bit_stab (a:Automaton) {b:List Bool} (h:bpass a b = b):∀ k,bit a k b = b
 | 0=>rfl
 | k + 1=>by rw [bit,h]; exact bit_stab a h k
theorem stab_eq {a:Automaton} {b:List Bool} {j k:Nat} (hj:bpass a (bit a j b) = bit a j b) (hk:bpass a (bit a k b) = bit a k b):bit a j b = bit a k b:=by
 have h1:=bit_add a j k b
 have h2:=bit_add a k j b
 rw [bit_stab a hj] at h1
 rw [bit_stab a hk] at h2
 rw [← h1,← h2,Nat.add_comm]
def iterE (a:Automaton):Nat→List Int→List Int
 | 0,v=>v
 | j + 1,v=>if (passZ a v).1 = true then iterE a j (passZ a v).2 else (passZ a v).2
theorem iterE_ZV {m:Nat} {a:Automaton}:∀ (j:Nat) (v:List Int),ZV m v→ZV m (iterE a j v)
 | 0,_,h=>h
 | j + 1,v,h=>by
  rw [iterE]
  split
  ·exact iterE_ZV j _ (passZ_ZV h)
  ·exact passZ_ZV h
theorem iterE_pos {m:Nat} {a:Automaton} (hx:∀ x∈a.Rules,0≤x.To∧x.To < (m:Int)):∀ (j:Nat) (v:List Int),ZV m v→∃ k,posV (iterE a j v) = bit a k (posV v)∧(bpass a (posV (iterE a j v)) = posV (iterE a j v)∨cntB (posV v) + j≤cntB (posV (iterE a j v)))
 | 0,v,h=>⟨0,rfl,.inr (Nat.le_refl _)⟩
 | j + 1,v,h=>by
  have hp:=pos_pass h hx
  rw [iterE]
  by_cases c:(passZ a v).1 = true
  ·rw [if_pos c]
   obtain ⟨k,e1,e2⟩:=iterE_pos hx j _ (passZ_ZV (a:=a) h)
   rw [hp] at e1 e2
   refine ⟨k + 1,e1,?_⟩
   rcases e2 with e2 | e2
   ·exact .inl e2
   ·rcases cnt_pass a (posV v) with e3 | e3
    ·left
     rw [e3,bit_stab a e3] at e1
     rw [e1,e3]
    ·exact .inr (by omega)
  ·rw [if_neg c]
   rcases passZ_mes h hx with e | ⟨e,_⟩
   ·rw [e] at hp ⊢
    exact ⟨0,rfl,.inl hp.symm⟩
   ·exact absurd e c
theorem iterE_stab {m:Nat} {a:Automaton} (hx:∀ x∈a.Rules,0≤x.To∧x.To < (m:Int)) {v:List Int} (h:ZV m v):∃ k,posV (iterE a m v) = bit a k (posV v)∧bpass a (posV (iterE a m v)) = posV (iterE a m v):=by
 obtain ⟨k,e1,e2⟩:=iterE_pos hx m v h
 refine ⟨k,e1,?_⟩
 rcases e2 with e2 | e2
 ·exact e2
 ·rcases cnt_pass a (posV (iterE a m v)) with e3 | e3
  ·exact e3
  ·exfalso
   have h1:=cnt_le (bpass a (posV (iterE a m v)))
   have h2:(bpass a (posV (iterE a m v))).length = m:=by
    rw [← pos_pass (iterE_ZV m v h) hx]
    unfold posV
    rw [List.length_map,(passZ_ZV (iterE_ZV m v h)).len]
   omega
theorem zero_ZV (m:Nat):ZV m (List.replicate m 0):=⟨List.length_replicate ..,fun x hx=>by rw [List.eq_of_mem_replicate hx]; omega⟩
theorem eRules {a:Automaton} (ha:OKa a) {R:Type} (s:Bool×List Int) (h:ZV a.States.toNat s.2) (k:Bool×List Int→Option R) :
 rangeL a.Rules s (fun k12 i12 x12 (s12:Bool×(List Int)) n12 =>
  rangeL x12.From 1 (fun k13 i13 x13 (s13:Int) n13 =>
   (idxM ((a.States).toNat) s12.2 x13).bind fun v4 =>
   if v4 = 0 then
    n12 (s12.1,s12.2)
   else
    (empty_plus s13 v4).bind fun v5 =>
    n13 v5) fun s13 =>
  (idxM ((a.States).toNat) s12.2 x12.To).bind fun v3 =>
  if v3 = 0 then
   n12 (true,(List.set s12.2 ((x12.To).toNat) s13))
  else
   if s13 < v3 then
    n12 (true,(List.set s12.2 ((x12.To).toNat) s13))
   else
    n12 (s12.1,s12.2)) k = k (a.Rules.foldl stepZ s):=by
 have hst:=ha.st
 have hrl:=ha.rul
 rw [rangeL,if_pos (by omega)]
 refine (foldC (step:=stepZ) (fun s=>ZV a.States.toNat s.2) a.Rules 0 s k h ?_ (fun x s _ h=>stepZ_ZV h x)).1
 intro j x s n1 hx hs
 have hf:=ha.frm x hx
 have hff:=ha.from' x hx
 have hto:=ha.to x hx
 rw [rangeL,if_pos (by omega),eInner hs _ _ x.From 0 1 (fun y hy=>by have:=hff y hy; omega) (by omega) (by omega)]
 unfold stepZ
 by_cases c1:0 < sumZ s.2 x.From 1
 ·rw [if_pos c1,if_pos c1,hs.idxM hto.1 (by omega)]
  simp only [Option.bind_some]
  by_cases c2:gz s.2 x.To = 0
  ·rw [if_pos c2,if_pos c2]
  ·rw [if_neg c2,if_neg c2]
   split <;> rfl
 ·rw [if_neg c1,if_neg c1]
theorem rRules {a:Automaton} (ha:OKa a) {R:Type} (s:Bool×List Int) (h:ZV a.States.toNat s.2) (k:Bool×List Int→Option R) :
 rangeL a.Rules s (fun k12 i12 x12 (s12:Bool×(List Int)) n12 =>
  rangeL x12.From 1 (fun k13 i13 x13 (s13:Int) n13 =>
   (idxM ((a.States).toNat) s12.2 x13).bind fun v4 =>
   if v4 = 0 then
    k13 0
   else
    (ref06_plus s13 v4).bind fun v5 =>
    n13 v5) fun s13 =>
  if 0 < s13 then
   (idxM ((a.States).toNat) s12.2 x12.To).bind fun v3 =>
   if v3 = 0 then
    n12 (true,(List.set s12.2 ((x12.To).toNat) s13))
   else
    if s13 < v3 then
     n12 (true,(List.set s12.2 ((x12.To).toNat) s13))
    else
     n12 (s12.1,s12.2)
  else
   n12 (s12.1,s12.2)) k = k (a.Rules.foldl stepZ s):=by
 have hst:=ha.st
 have hrl:=ha.rul
 rw [rangeL,if_pos (by omega)]
 refine (foldC (step:=stepZ) (fun s=>ZV a.States.toNat s.2) a.Rules 0 s k h ?_ (fun x s _ h=>stepZ_ZV h x)).1
 intro j x s n1 hx hs
 have hf:=ha.frm x hx
 have hff:=ha.from' x hx
 have hto:=ha.to x hx
 rw [rangeL,if_pos (by omega)]
 refine (rInner hs (fun s13 =>
  if 0 < s13 then
   (idxM ((a.States).toNat) s.2 x.To).bind fun v3 =>
   if v3 = 0 then
    n1 (true,(List.set s.2 ((x.To).toNat) s13))
   else
    if s13 < v3 then
     n1 (true,(List.set s.2 ((x.To).toNat) s13))
    else
     n1 (s.1,s.2)
  else
   n1 (s.1,s.2)) x.From 0 1 (fun y hy=>by have:=hff y hy; omega) (by omega) (by omega)).trans ?_
 unfold stepZ
 by_cases c1:0 < sumZ s.2 x.From 1
 ·rw [if_pos c1,if_pos c1,hs.idxM hto.1 (by omega)]
  simp only [Option.bind_some]
  by_cases c2:gz s.2 x.To = 0
  ·rw [if_pos c2,if_pos c2]
  ·rw [if_neg c2,if_neg c2]
   split <;> rfl
 ·rw [if_neg c1,if_neg c1]
theorem mk8_eq {a:Automaton} (ha:OKa a):mkz 8 a.States a.States (0:Int) = some (List.replicate a.States.toNat 0):=by
 have hst:=ha.st
 unfold mkz; rw [if_pos (by omega)]
theorem tkM_eq {m:Nat} {α:Type} {v:List α} (h:v.length = m):tkM m v = some v:=by
 unfold tkM
 rw [if_pos (by rw [h]; exact Nat.le_refl _),List.take_of_length_le (by rw [h]; exact Nat.le_refl _)]
theorem esizes_eq {a:Automaton} (ha:OKa a):empty_sizes a = some (iterE a a.States.toNat (List.replicate a.States.toNat 0)):=by
 have hst:=ha.st
 unfold empty_sizes
 rw [mk8_eq ha,Option.bind_some,rangeI,if_pos (by omega)]
 suffices H:∀ (j i:Nat) (v:List Int) (k:List Int→Option (List Int)),ZV a.States.toNat v→rangeC (fun i9 (_:Unit) (s9:(List Int)) n9 =>
  rangeL a.Rules (false,s9) (fun k12 i12 x12 (s12:Bool×(List Int)) n12 =>
   rangeL x12.From 1 (fun k13 i13 x13 (s13:Int) n13 =>
    (idxM ((a.States).toNat) s12.2 x13).bind fun v4 =>
    if v4 = 0 then
     n12 (s12.1,s12.2)
    else
     (empty_plus s13 v4).bind fun v5 =>
     n13 v5) fun s13 =>
   (idxM ((a.States).toNat) s12.2 x12.To).bind fun v3 =>
   if v3 = 0 then
    n12 (true,(List.set s12.2 ((x12.To).toNat) s13))
   else
    if s13 < v3 then
     n12 (true,(List.set s12.2 ((x12.To).toNat) s13))
    else
     n12 (s12.1,s12.2)) fun s12 =>
  if s12.1 = true then
   n9 s12.2
  else
   k s12.2) (List.replicate j ()) i v k = k (iterE a j v) by
  refine (H a.States.toNat 0 _ (fun s9=>(tkM ((a.States).toNat) s9).bind fun v2=>some v2) (zero_ZV _)).trans ?_
  rw [tkM_eq (iterE_ZV _ _ (zero_ZV _)).len]; rfl
 intro j
 induction j with
 | zero=>intro i v k h; rw [List.replicate_zero,rangeC,iterE]
 | succ j ih =>
  intro i v k h
  rw [List.replicate_succ,rangeC,eRules ha (false,v) h]
  rw [iterE]
  show (if (passZ a v).1 = true then _ else _) = _
  by_cases c:(passZ a v).1 = true
  ·rw [if_pos c,if_pos c]
   exact ih (i + 1) _ k (passZ_ZV h)
  ·rw [if_neg c,if_neg c]; rfl
end Go.AM.S22

namespace Go.AM.S22.Sz
open Go Go.Proofs Go.AM Go.AM.S22
set_option linter.unusedVariables false
set_option maxRecDepth 100000
set_option maxHeartbeats 4000000
def capI (n:Nat):Int:=if (n:Int)≤4611686018427387904 then (n:Int) else 4611686018427387904
def pl (a b:Int):Int:=if a + b≤4611686018427387904 then a + b else 4611686018427387904
theorem pl_cap (m n:Nat):pl (capI m) (capI n) = capI (m + n):=by
 unfold pl capI
 split <;> split <;> split <;> (try split) <;> omega
theorem pl_mono {a b c d:Int} (h:a≤c) (k:b≤d):pl a b≤pl c d:=by
 unfold pl; split <;> split <;> omega
theorem cap_mono {m n:Nat} (h:m≤n):capI m≤capI n:=by
 unfold capI; split <;> split <;> omega
theorem cap_pos {n:Nat} (h:1≤n):1≤capI n:=by unfold capI; split <;> omega
def gv (v:List Int) (s:Int):Int:=(v[s.toNat]?).getD 0
def costL (v:List Int):List Int→Int→Option Int
 | [],n=>some n
 | s :: f,n=>if gv v s = 0 then none else costL v f (pl n (gv v s))
def stepR (c:List Int×Bool) (x:Rule):List Int×Bool :=
 match costL c.1 x.From 1 with
 | none=>c
 | some n=>if gv c.1 x.To = 0∨n < gv c.1 x.To then (c.1.set x.To.toNat n,true) else c
mutual
inductive Der (R:List Rule):Tree→Int→Prop
 | mk {x:Rule} {ks:List Tree}:x∈R→DerL R ks x.From→Der R (.mk x.Sym ks) x.To
inductive DerL (R:List Rule):List Tree→List Int→Prop
 | nil:DerL R [] []
 | cons {k:Tree} {ks:List Tree} {f:Int} {fs:List Int}:Der R k f→DerL R ks fs→DerL R (k :: ks) (f :: fs)
end
variable {R:List Rule} {k:Nat}
def Good (R:List Rule) (k:Nat) (v:List Int):Prop:=v.length = k∧∀ q:Int,0≤q→gv v q≠0→∃ t,Der R t q∧gv v q = capI (tsT t)
def Low (R:List Rule) (v:List Int):Prop:=∀ t q,Der R t q→gv v q≠0∧gv v q≤capI (tsT t)
theorem ts_pos' (t:Tree):1≤tsT t:=by rw [tsT_eq]; omega
theorem gv_set {v:List Int} {s q n:Int} (hs:0≤s) (hl:s < v.length) (hq:0≤q):gv (v.set s.toNat n) q = if q = s then n else gv v q:=by
 unfold gv
 rw [List.getElem?_set]
 by_cases e:q = s
 ·subst e; rw [if_pos rfl,if_pos rfl,if_pos (by omega)]; rfl
 ·rw [if_neg e,if_neg (by omega)]
theorem cost_good {v:List Int} (hg:Good R k v):∀ (f:List Int) (m:Nat) (n:Int),(∀ s∈f,0≤s)→costL v f (capI m) = some n→∃ ks,DerL R ks f∧n = capI (m + tsL ks)
 | [],m,n,hf,h=>by
  rw [costL] at h; injection h with h; subst h
  exact ⟨[],.nil,by rw [tsL]; rfl⟩
 | s :: f,m,n,hf,h=>by
  rw [costL] at h
  split at h
  ·cases h
  ·rename_i h0
   obtain ⟨t,ht,e⟩:=hg.2 s (hf s (by simp)) h0
   rw [e,pl_cap] at h
   obtain ⟨ks,h1,h2⟩:=cost_good hg f _ n (fun y hy=>hf y (List.mem_cons_of_mem _ hy)) h
   exact ⟨t :: ks,.cons ht h1,by rw [h2,tsL,Nat.add_assoc]⟩
def Bnd (v:List Int):List Tree→List Int→Prop
 | [],[]=>True
 | t :: ks,s :: f=>(gv v s≠0∧gv v s≤capI (tsT t))∧Bnd v ks f
 | _,_=>False
theorem cost_low {v:List Int}:∀ (ks:List Tree) (f:List Int) (m:Nat) (a:Int),Bnd v ks f→a≤capI m→∃ n,costL v f a = some n∧n≤capI (m + tsL ks)
 | [],[],m,a,_,ha=>⟨a,rfl,by rw [tsL]; exact ha⟩
 | t :: ks,s :: f,m,a,h,ha=>by
  rw [Bnd] at h
  obtain ⟨⟨h1,h2⟩,h3⟩:=h
  obtain ⟨n,e,hn⟩:=cost_low ks f (m + tsT t) (pl a (gv v s)) h3 (by rw [← pl_cap]; exact pl_mono ha h2)
  exact ⟨n,by rw [costL,if_neg h1,e],by rw [tsL,← Nat.add_assoc]; exact hn⟩
 | [],_ :: _,_,_,h,_=>by rw [Bnd] at h; exact h.elim; all_goals simp
 | _ :: _,[],_,_,h,_=>by rw [Bnd] at h; exact h.elim; all_goals simp
def Le (w v:List Int):Prop:=w.length = v.length∧∀ q:Int,0≤q→gv v q≠0→gv w q≠0∧gv w q≤gv v q
theorem Le.refl (v:List Int):Le v v:=⟨rfl,fun q _ h=>⟨h,Int.le_refl _⟩⟩
theorem Le.trans {u w v:List Int} (h:Le u w) (g:Le w v):Le u v:=⟨h.1.trans g.1,fun q hq h0=>by
 obtain ⟨g1,g2⟩:=g.2 q hq h0
 obtain ⟨h1,h2⟩:=h.2 q hq g1
 exact ⟨h1,Int.le_trans h2 g2⟩⟩
theorem Bnd.le {w v:List Int} (h:Le w v):∀ (ks:List Tree) (f:List Int),(∀ s∈f,0≤s)→Bnd v ks f→Bnd w ks f
 | [],[],_,_=>by rw [Bnd]; trivial
 | t :: ks,s :: f,hf,b=>by
  rw [Bnd] at b ⊢
  obtain ⟨h1,h2⟩:=h.2 s (hf s (by simp)) b.1.1
  exact ⟨⟨h1,Int.le_trans h2 b.1.2⟩,Bnd.le h ks f (fun y hy=>hf y (List.mem_cons_of_mem _ hy)) b.2⟩
 | [],_ :: _,_,h=>by rw [Bnd] at h; exact h.elim; all_goals simp
 | _ :: _,[],_,h=>by rw [Bnd] at h; exact h.elim; all_goals simp
structure RO (R:List Rule) (k:Nat):Prop where
 to:∀ x∈R,0≤x.To∧x.To < (k:Int)
 frm:∀ x∈R,∀ s∈x.From,0≤s∧s < (k:Int)
theorem step_ok (hR:RO R k) {v:List Int} {b:Bool} (hg:Good R k v) {x:Rule} (hx:x∈R):Good R k (stepR (v,b) x).1∧Le (stepR (v,b) x).1 v∧(b = true→(stepR (v,b) x).2 = true):=by
 unfold stepR
 cases e:costL v x.From 1 with
 | none=>exact ⟨hg,Le.refl v,fun h=>h⟩
 | some n =>
  simp only []
  obtain ⟨h0,h1⟩:=hR.to x hx
  have hl:=hg.1
  by_cases c:gv v x.To = 0∨n < gv v x.To
  ·rw [if_pos c]
   obtain ⟨ks,hk,hn⟩:=cost_good hg x.From 1 n (fun s hs=>(hR.frm x hx s hs).1) e
   have hn1:1≤n:=by rw [hn]; exact cap_pos (by omega)
   refine ⟨⟨by rw [List.length_set]; exact hl,fun q hq0 hq=>?_⟩,⟨List.length_set,fun q hq0 hq=>?_⟩,fun _=>rfl⟩
   ·rw [gv_set h0 (by omega) hq0] at hq ⊢
    by_cases e2:q = x.To
    ·rw [if_pos e2]; rw [e2]
     refine ⟨_,.mk hx hk,?_⟩
     rw [hn,tsT]
    ·rw [if_neg e2] at hq ⊢; exact hg.2 q hq0 hq
   ·rw [gv_set h0 (by omega) hq0]
    by_cases e2:q = x.To
    ·rw [if_pos e2]
     rcases c with c | c
     ·rw [e2] at hq; exact absurd c hq
     ·rw [e2]; exact ⟨by omega,by omega⟩
    ·rw [if_neg e2]; exact ⟨hq,Int.le_refl _⟩
  ·rw [if_neg c]; exact ⟨hg,Le.refl v,fun h=>h⟩
theorem step_low (hR:RO R k) {v:List Int} {b:Bool} (hg:Good R k v) {x:Rule} (hx:x∈R) {ks:List Tree} (h:Bnd v ks x.From):gv (stepR (v,b) x).1 x.To≠0∧gv (stepR (v,b) x).1 x.To≤capI (1 + tsL ks):=by
 obtain ⟨n,e,hn⟩:=cost_low ks x.From 1 1 h (Int.le_refl _)
 obtain ⟨ks',_,hn'⟩:=cost_good hg x.From 1 n (fun s hs=>(hR.frm x hx s hs).1) e
 have hn1:1≤n:=by rw [hn']; exact cap_pos (by omega)
 obtain ⟨h0,h1⟩:=hR.to x hx
 have hl:=hg.1
 unfold stepR
 rw [e]
 simp only []
 by_cases c:gv v x.To = 0∨n < gv v x.To
 ·rw [if_pos c,gv_set h0 (by omega) h0,if_pos rfl]; exact ⟨by omega,hn⟩
 ·rw [if_neg c]; exact ⟨fun h=>c (.inl h),Int.le_trans (Int.not_lt.1 fun h=>c (.inr h)) hn⟩
theorem step_b {c:List Int×Bool} {x:Rule}:(stepR c x).2 = false→stepR c x = c:=by
 unfold stepR
 split
 ·exact fun _=>rfl
 ·split
  ·exact fun h=>by cases h
  ·exact fun _=>rfl
theorem step_t {c:List Int×Bool} {x:Rule} (h:c.2 = true):(stepR c x).2 = true:=by
 unfold stepR
 split
 ·exact h
 ·split
  ·rfl
  ·exact h
theorem fold_t:∀ (l:List Rule) (c:List Int×Bool),c.2 = true→(l.foldl stepR c).2 = true
 | [],_,h=>h
 | x :: l,c,h=>fold_t l _ (step_t h)
theorem fold_ok (hR:RO R k):∀ (l:List Rule) (v:List Int) (b:Bool),(∀ x∈l,x∈R)→Good R k v→Good R k (l.foldl stepR (v,b)).1∧Le (l.foldl stepR (v,b)).1 v
 | [],v,b,_,hg=>⟨hg,Le.refl v⟩
 | x :: l,v,b,hl,hg=>by
  obtain ⟨h1,h2,_⟩:=step_ok hR (b:=b) hg (hl x (by simp))
  obtain ⟨h3,h4⟩:=fold_ok hR l (stepR (v,b) x).1 (stepR (v,b) x).2 (fun y hy=>hl y (List.mem_cons_of_mem _ hy)) h1
  exact ⟨h3,h4.trans h2⟩
theorem fold_low (hR:RO R k):∀ (l:List Rule) (v:List Int) (b:Bool),(∀ x∈l,x∈R)→Good R k v→∀ x∈l,∀ ks,Bnd v ks x.From→gv (l.foldl stepR (v,b)).1 x.To≠0∧gv (l.foldl stepR (v,b)).1 x.To≤capI (1 + tsL ks)
 | [],v,b,_,hg,x,hx,_,_=>by cases hx
 | y :: l,v,b,hl,hg,x,hx,ks,h=>by
  have hy:=hl y (by simp)
  have hl':∀ x∈l,x∈R:=fun z hz=>hl z (List.mem_cons_of_mem _ hz)
  obtain ⟨h1,h2,_⟩:=step_ok hR (b:=b) hg hy
  obtain ⟨h3,h4⟩:=fold_ok hR l (stepR (v,b) y).1 (stepR (v,b) y).2 hl' h1
  rcases List.mem_cons.1 hx with rfl | hx
  ·obtain ⟨g1,g2⟩:=step_low hR (b:=b) hg hy h
   obtain ⟨g3,g4⟩:=h4.2 _ (hR.to x hy).1 g1
   exact ⟨g3,Int.le_trans g4 g2⟩
  ·exact fold_low hR l (stepR (v,b) y).1 (stepR (v,b) y).2 hl' h1 x hx ks (h.le h2 ks _ (fun s hs=>(hR.frm x (hl' x hx) s hs).1))
theorem fold_same:∀ (l:List Rule) (c:List Int×Bool),(l.foldl stepR c).2 = false→l.foldl stepR c = c∧∀ x∈l,stepR c x = c
 | [],c,_=>⟨rfl,fun x h=>by cases h⟩
 | y :: l,c,h=>by
  rw [List.foldl_cons] at h ⊢
  have hs:stepR c y = c:=by
   cases e:(stepR c y).2 with
   | false=>exact step_b e
   | true=>rw [fold_t l _ e] at h; cases h
  rw [hs] at h ⊢
  obtain ⟨h1,h2⟩:=fold_same l c h
  refine ⟨h1,fun x hx=>?_⟩
  rcases List.mem_cons.1 hx with rfl | hx
  ·exact hs
  ·exact h2 x hx
theorem bnd_of {v:List Int}:∀ (ks:List Tree) (f:List Int),DerL R ks f→(∀ t q,tsT t≤tsL ks→Der R t q→gv v q≠0∧gv v q≤capI (tsT t))→Bnd v ks f
 | [],f,h,_=>by cases h; rw [Bnd]; trivial
 | t :: ks,f,h,hb=>by
  cases h with
  | cons h1 h2 =>
   rw [Bnd]
   refine ⟨hb t _ (by rw [tsL]; omega) h1,bnd_of ks _ h2 fun t' q ht' hd=>hb t' q (by rw [tsL]; omega) hd⟩
theorem fix_low (hR:RO R k) {v:List Int} (hg:Good R k v) (h:(R.foldl stepR (v,false)).2 = false):Low R v:=by
 obtain ⟨_,hs⟩:=fold_same R _ h
 have H:∀ n t q,tsT t < n→Der R t q→gv v q≠0∧gv v q≤capI (tsT t):=by
  intro n
  induction n with
  | zero=>intro t q h; omega
  | succ n ih =>
   intro t q hn hd
   cases hd with
   | @mk x ks hx hk =>
    rw [tsT] at hn ⊢
    have hb:=bnd_of (v:=v) ks x.From hk fun t' q' ht' hd'=>ih t' q' (by omega) hd'
    have:=step_low hR (b:=false) hg hx hb
    rw [hs x hx] at this
    exact this
 exact fun t q hd=>H (tsT t + 1) t q (by omega) hd
def Mn (R:List Rule) (t:Tree) (q:Int):Prop:=Der R t q∧∀ t',Der R t' q→tsT t≤tsT t'
theorem mn_ex:∀ (m:Nat) (t:Tree) (q:Int),tsT t≤m→Der R t q→∃ t',Mn R t' q∧tsT t'≤tsT t
 | 0,t,q,h,_=>by have:=ts_pos' t; omega
 | m + 1,t,q,h,hd=>by
  by_cases c:∃ t',Der R t' q∧tsT t' < tsT t
  ·obtain ⟨t',h1,h2⟩:=c
   obtain ⟨t'',h3,h4⟩:=mn_ex m t' q (by omega) h1
   exact ⟨t'',h3,by omega⟩
  ·exact ⟨t,⟨hd,fun t' h'=>Nat.le_of_not_lt fun h=>c ⟨t',h',h⟩⟩,Nat.le_refl _⟩
theorem der_rng (hR:RO R k) {t:Tree} {q:Int} (h:Der R t q):0≤q∧q < (k:Int):=by
 cases h with
 | mk hx _=>exact hR.to _ hx
theorem filter_lt {α:Type} {p p':α→Bool}:∀ (l:List α),(∀ q∈l,p q = true→p' q = true)→(∃ q∈l,p' q = true∧p q = false)→(l.filter p).length < (l.filter p').length
 | [],_,⟨q,h,_⟩=>by cases h
 | x :: l,h,⟨q,hq,h1,h2⟩=>by
  have hle:∀ l:List α,(∀ q∈l,p q = true→p' q = true)→(l.filter p).length≤(l.filter p').length:=by
   intro l
   induction l with
   | nil=>intro _; exact Nat.le_refl _
   | cons y l ih =>
    intro h
    have:=ih fun q hq=>h q (List.mem_cons_of_mem _ hq)
    rw [List.filter_cons,List.filter_cons]
    cases c:p y with
    | true=>rw [h y (by simp) c,if_pos rfl,if_pos rfl,List.length_cons,List.length_cons]; omega
    | false =>
     rw [if_neg (by simp)]
     split
     ·rw [List.length_cons]; omega
     ·exact this
  rw [List.filter_cons,List.filter_cons]
  rcases List.mem_cons.1 hq with rfl | hq
  ·rw [h1,h2,if_pos rfl,if_neg (by simp),List.length_cons]
   have:=hle l fun q hq=>h q (List.mem_cons_of_mem _ hq)
   omega
  ·have:=filter_lt l (fun q hq=>h q (List.mem_cons_of_mem _ hq)) ⟨q,hq,h1,h2⟩
   cases c:p x with
   | true=>rw [h x (by simp) c,if_pos rfl,if_pos rfl,List.length_cons,List.length_cons]; omega
   | false =>
    rw [if_neg (by simp)]
    split
    ·rw [List.length_cons]; omega
    ·exact this
open Classical in
noncomputable def cL (R:List Rule) (k m:Nat):Nat:=((List.range k).filter fun (q:Nat)=>decide (∃ t,Der R t (q:Int)∧tsT t < m)).length
open Classical in
theorem cL_lt (hR:RO R k) {t:Tree} {q:Int} (h:Mn R t q) {m:Nat} (hm:tsT t < m):cL R k (tsT t) < cL R k m:=by
 obtain ⟨h0,h1⟩:=der_rng hR h.1
 unfold cL
 refine filter_lt _ (fun p hp hx=>?_) ⟨q.toNat,List.mem_range.2 (by omega),?_,?_⟩
 ·obtain ⟨t',h2,h3⟩:=of_decide_eq_true hx
  exact decide_eq_true ⟨t',h2,by omega⟩
 ·exact decide_eq_true ⟨t,by rw [Int.toNat_of_nonneg h0]; exact h.1,hm⟩
 ·refine decide_eq_false ?_
  rintro ⟨t',h2,h3⟩
  rw [Int.toNat_of_nonneg h0] at h2
  have:=h.2 t' h2
  omega
open Classical in
theorem cL_max (hR:RO R k) {t:Tree} {q:Int} (h:Mn R t q):cL R k (tsT t) < k:=by
 obtain ⟨h0,h1⟩:=der_rng hR h.1
 have:k = ((List.range k).filter fun _=>true).length:=by rw [List.filter_eq_self.2 fun _ _=>rfl,List.length_range]
 refine Nat.lt_of_lt_of_eq ?_ this.symm
 unfold cL
 refine filter_lt _ (fun _ _ _=>rfl) ⟨q.toNat,List.mem_range.2 (by omega),rfl,decide_eq_false ?_⟩
 rintro ⟨t',h2,h3⟩
 rw [Int.toNat_of_nonneg h0] at h2
 have:=h.2 t' h2
 omega
def LowUp (R:List Rule) (k i:Nat) (v:List Int):Prop:=∀ t q,Mn R t q→cL R k (tsT t) < i→gv v q≠0∧gv v q≤capI (tsT t)
theorem pass_up (hR:RO R k) {i:Nat} {v:List Int} {b:Bool} (hg:Good R k v) (h:LowUp R k i v):LowUp R k (i + 1) (R.foldl stepR (v,b)).1:=by
 intro t q hm hc
 obtain ⟨hd,hmin⟩:=hm
 cases hd with
 | @mk x ks hx hk =>
  rw [tsT] at hc ⊢
  refine fold_low hR R v b (fun _ h=>h) hg x hx ks (bnd_of ks _ hk fun t' q' ht' hd'=>?_)
  obtain ⟨t2,h2,h3⟩:=mn_ex (tsT t') t' q' (Nat.le_refl _) hd'
  obtain ⟨g1,g2⟩:=h t2 q' h2 (by have:=cL_lt hR h2 (m:=1 + tsL ks) (by omega); omega)
  exact ⟨g1,Int.le_trans g2 (cap_mono h3)⟩
theorem up_low (hR:RO R k) {v:List Int} (h:LowUp R k k v):Low R v:=by
 intro t q hd
 obtain ⟨t2,h2,h3⟩:=mn_ex (tsT t) t q (Nat.le_refl _) hd
 obtain ⟨g1,g2⟩:=h t2 q h2 (cL_max hR h2)
 exact ⟨g1,Int.le_trans g2 (cap_mono h3)⟩
theorem good_zero:Good R k (List.replicate k 0):=by
 refine ⟨by simp,fun q hq h=>?_⟩
 exfalso; apply h
 unfold gv
 rw [List.getElem?_replicate]
 split <;> rfl
theorem up_zero {v:List Int}:LowUp R k 0 v:=fun t q _ h=>by omega
theorem good_low_eq {v w:List Int} (hv:Good R k v) (lv:Low R v) (hw:Good R k w) (lw:Low R w):v = w:=by
 have H:∀ q:Int,0≤q→gv v q = gv w q:=by
  intro q hq
  by_cases c:gv v q = 0
  ·by_cases d:gv w q = 0
   ·rw [c,d]
   ·obtain ⟨t,ht,_⟩:=hw.2 q hq d
    exact absurd c (lv t q ht).1
  ·obtain ⟨t,ht,e⟩:=hv.2 q hq c
   obtain ⟨g1,g2⟩:=lw t q ht
   obtain ⟨t',ht',e'⟩:=hw.2 q hq g1
   have:=(lv t' q ht').2
   omega
 apply List.ext_getElem
 ·rw [hv.1,hw.1]
 ·intro i h1 h2
  have:=H (i:Int) (by omega)
  unfold gv at this
  rw [Int.toNat_natCast,List.getElem?_eq_getElem h1,List.getElem?_eq_getElem h2] at this
  exact this
end Go.AM.S22.Sz

namespace Go.AM.S22
open Go Go.Proofs Go.AM
set_option linter.unusedVariables false
set_option maxRecDepth 100000
set_option maxHeartbeats 4000000
namespace A3
open Go Go.Proofs Go.AM Go.AM.S22
theorem ok_of {r:List Int} {a:Automaton} {t:Tree} (hv:aV r a = true) (hf:fewB r a t = true):A3.OKa r a:=by
 have h:=S22.ok_of hv hf
 unfold aV at hv
 simp only [Bool.and_eq_true,decide_eq_true_eq,List.all_eq_true,Bool.or_eq_true] at hv
 obtain ⟨v1,⟨v2,v3,v4⟩,v5,v6⟩:=hv
 unfold vA at v1
 simp only [Bool.and_eq_true,decide_eq_true_eq] at v1
 refine ⟨v1.1,h.st,h.rul,h.fin,h.frm,fun x hx=>?_,h.to,h.from',h.fins⟩
 have:=v6 x hx
 unfold rOk at this
 simp only [Bool.and_eq_true,decide_eq_true_eq] at this
 exact this.1
end A3
theorem pl_plus (a b:Int):Sz.pl a b = plusI a b:=by unfold Sz.pl plusI; split <;> split <;> omega
theorem gv_gz (v:List Int) (x:Int):Sz.gv v x = gz v x:=rfl
theorem sum_cost {m:Nat} {v:List Int} (h:ZV m v):∀ (f:List Int) (n:Int),1≤n→(match Sz.costL v f n with | none=>sumZ v f n = 0 | some k=>sumZ v f n = k∧1≤k)
 | [],n,hn=>by rw [Sz.costL]; exact ⟨by rw [sumZ],hn⟩
 | s :: f,n,hn=>by
  rw [Sz.costL,gv_gz,sumZ]
  by_cases c:gz v s = 0
  ·rw [if_pos c,if_pos c]
  ·rw [if_neg c,if_neg c,pl_plus]
   exact sum_cost h f _ (plusI_bd hn (h.gz s).1).1
theorem step_eq {m:Nat} {v:List Int} (h:ZV m v) (b:Bool) (x:Rule):stepZ (b,v) x = ((Sz.stepR (v,b) x).2,(Sz.stepR (v,b) x).1):=by
 have hs:=sum_cost h x.From 1 (by omega)
 unfold stepZ Sz.stepR
 dsimp only
 cases e:Sz.costL v x.From 1 with
 | none =>
  rw [e] at hs
  dsimp only at hs ⊢
  rw [hs,if_neg (by omega)]
 | some n =>
  rw [e] at hs
  dsimp only at hs ⊢
  rw [hs.1,if_pos (by omega),gv_gz]
  by_cases c1:gz v x.To = 0
  ·rw [if_pos c1,if_pos (.inl c1)]
  ·rw [if_neg c1]
   by_cases c2:n < gz v x.To
   ·rw [if_pos c2,if_pos (.inr c2)]
   ·rw [if_neg c2,if_neg (by rintro (h | h) <;> omega)]
theorem fold_eq {m:Nat}:∀ (l:List Rule) (v:List Int) (b:Bool),ZV m v→l.foldl stepZ (b,v) = ((l.foldl Sz.stepR (v,b)).2,(l.foldl Sz.stepR (v,b)).1)
 | [],v,b,h=>rfl
 | x :: l,v,b,h=>by
  rw [List.foldl_cons,List.foldl_cons,step_eq h]
  have hz:=stepZ_ZV (s:=(b,v)) h x
  rw [step_eq h] at hz
  exact fold_eq l _ _ hz
theorem iter_low {a:Automaton} {k:Nat} (hR:Sz.RO a.Rules k):∀ (j i:Nat) (v:List Int),ZV k v→Sz.Good a.Rules k v→Sz.LowUp a.Rules k i v→Sz.Good a.Rules k (iterE a j v)∧(Sz.Low a.Rules (iterE a j v)∨Sz.LowUp a.Rules k (i + j) (iterE a j v))
 | 0,i,v,hz,hg,hu=>⟨hg,.inr hu⟩
 | j + 1,i,v,hz,hg,hu=>by
  rw [iterE]
  have e:passZ a v = ((a.Rules.foldl Sz.stepR (v,false)).2,(a.Rules.foldl Sz.stepR (v,false)).1):=fold_eq a.Rules v false hz
  have hg':=(Sz.fold_ok hR a.Rules v false (fun _ h=>h) hg).1
  rw [e]
  dsimp only
  cases c:(a.Rules.foldl Sz.stepR (v,false)).2 with
  | true =>
   rw [if_pos rfl]
   have hz':=passZ_ZV (a:=a) hz
   rw [e] at hz'
   obtain ⟨h1,h2⟩:=iter_low hR j (i + 1) _ hz' hg' (Sz.pass_up hR hg hu)
   refine ⟨h1,h2.imp id fun h=>?_⟩
   rwa [show i + 1 + j = i + (j + 1) by omega] at h
  | false =>
   rw [if_neg (by simp)]
   refine ⟨hg',.inl ?_⟩
   have:=(Sz.fold_same a.Rules (v,false) c).1
   rw [this]
   exact Sz.fix_low hR hg c
theorem sizes_low {a:Automaton} (ha:OKa a):∃ v,empty_sizes a = some v∧ZV a.States.toNat v∧Sz.Good a.Rules a.States.toNat v∧Sz.Low a.Rules v:=by
 have hst:=ha.st
 have hR:Sz.RO a.Rules a.States.toNat:=⟨fun x hx=>by have:=ha.to x hx; omega,fun x hx s hs=>by have:=ha.from' x hx s hs; omega⟩
 refine ⟨_,esizes_eq ha,iterE_ZV _ _ (zero_ZV _),?_⟩
 obtain ⟨h1,h2⟩:=iter_low hR a.States.toNat 0 _ (zero_ZV _) Sz.good_zero Sz.up_zero
 refine ⟨h1,h2.elim id fun h=>Sz.up_low hR ?_⟩
 rwa [Nat.zero_add] at h
end Go.AM.S22

namespace Go.AM.S22
open Go Go.Proofs Go.AM
set_option linter.unusedVariables false
set_option maxRecDepth 100000
set_option maxHeartbeats 4000000
mutual
def dT (R M I:Int):Tree→Tree→Int
 | .mk s ks,u=>if ks.length = u.Kids.length∧(s = u.Sym∨0≤R) then min (M * tsT (.mk s ks) + I * tsT u) ((if s = u.Sym then 0 else R) + dL R M I ks u.Kids) else M * tsT (.mk s ks) + I * tsT u
def dL (R M I:Int):List Tree→List Tree→Int
 | [],_=>0
 | _ :: _,[]=>0
 | x :: r,y :: q=>dT R M I x y + dL R M I r q
end
theorem dT_eq (R M I:Int) (t u:Tree):dT R M I t u = if t.Kids.length = u.Kids.length∧(t.Sym = u.Sym∨0≤R) then min (M * tsT t + I * tsT u) ((if t.Sym = u.Sym then 0 else R) + dL R M I t.Kids u.Kids) else M * tsT t + I * tsT u:=by
 cases t; rw [dT]
structure WOk (R M I:Int):Prop where
 r:-1≤R∧R≤1000
 m:0≤M∧M≤1000
 i:0≤I∧I≤1000
theorem mul_bd {M:Int} (h:0≤M∧M≤1000) (k:Nat):0≤M * (k:Int)∧M * (k:Int)≤1000 * k :=
 ⟨Int.mul_nonneg h.1 (Int.natCast_nonneg k),Int.mul_le_mul_of_nonneg_right h.2 (Int.natCast_nonneg k)⟩
mutual
theorem dT_bd {R M I:Int} (w:WOk R M I):∀ t u:Tree,0≤dT R M I t u∧dT R M I t u≤M * tsT t + I * tsT u
 | .mk s ks,u=>by
  have h1:=mul_bd w.m (tsT (.mk s ks))
  have h2:=mul_bd w.i (tsT u)
  have h3:=dL_bd w ks u.Kids
  rw [dT]
  split
  ·rename_i h
   have:0≤(if s = u.Sym then 0 else R):=by
    split
    ·omega
    ·rcases h.2 with h | h
     ·contradiction
     ·exact h
   omega
  ·omega
theorem dL_bd {R M I:Int} (w:WOk R M I):∀ ks qs:List Tree,0≤dL R M I ks qs
 | [],_=>by rw [dL]; omega
 | _ :: _,[]=>by rw [dL]; omega
 | x :: r,y :: q=>by
  rw [dL]
  have:=(dT_bd w x y).1
  have:=dL_bd w r q
  omega
end
theorem dT_big {R M I:Int} (w:WOk R M I) (t u:Tree):dT R M I t u≤1000 * (tsT t + tsT u:Nat):=by
 have h1:=mul_bd w.m (tsT t)
 have h2:=mul_bd w.i (tsT u)
 have h3:=(dT_bd w t u).2
 omega
theorem least_eq (a b:Int):repair_least_int a b = some (min a b):=by
 unfold repair_least_int
 by_cases c:b < a
 ·rw [if_pos c]; congr 1; omega
 ·rw [if_neg c]; congr 1; omega
theorem minI_eq (a b:Int):minI a b = min a b:=by unfold minI; split <;> omega
theorem d_loop {Rr:Type} {F:Tree→Tree→Option Int} {R M I:Int} (w:WOk R M I) (all:List Tree):∀ (ks qs:List Tree) (i:Nat) (s:Int) (K:Int→Option Rr),
 (∀ x∈ks,∀ y∈qs,F x y = some (dT R M I x y))→all.drop i = qs→ks.length = qs.length→0≤s→s + 1000 * (tsL ks + tsL qs:Nat)≤1000000000 →
 rangeC (fun i1 x1 (s1:Int) n1=>(all[i1]?).bind fun v=>(F x1 v).bind fun v5=>n1 (w64 (s1 + v5))) ks i s K = K (s + dL R M I ks qs)
 | [],[],i,s,K,_,_,_,_,_=>by rw [rangeC,dL,Int.add_zero]
 | [],_ :: _,_,_,_,_,_,h,_,_=>by cases h
 | _ :: _,[],_,_,_,_,_,h,_,_=>by cases h
 | x :: ks,y :: qs,i,s,K,hF,hd,hl,h0,hb=>by
  have hy:all[i]? = some y:=by
   have:=List.getElem?_drop (xs:=all) (i:=i) (j:=0)
   rw [hd] at this
   simpa using this.symm
  have hd':all.drop (i + 1) = qs:=by
   have:all.drop (i + 1) = (all.drop i).drop 1:=by rw [List.drop_drop]
   rw [this,hd]; rfl
  have b1:=(dT_bd w x y).1
  have b2:=dT_big w x y
  simp only [tsL] at hb
  rw [rangeC,hy,Option.bind_some,hF x (by simp) y (by simp),Option.bind_some,w64_eq (by omega) (by omega)]
  refine (d_loop w all ks qs (i + 1) (s + dT R M I x y) K (fun a ha b hb=>hF a (List.mem_cons_of_mem _ ha) b (List.mem_cons_of_mem _ hb)) hd' (by simpa using hl) (by omega) (by omega)).trans ?_
  rw [dL,Int.add_assoc]
theorem between_eq {R M I:Int} (w:WOk R M I):∀ (n:Nat) (t u:Tree),tdT t + 1 < n→tdT u + 1 < n→tsT t≤80→tsT u≤1000→ref22_Between n t u ⟨R,M,I⟩ = some (dT R M I t u)
 | 0,_,_,h,_,_,_=>by omega
 | n + 1,t,u,h1,h2,h3,h4=>by
  have e1:=ref01_Size_eq n t
  have e2:=ref01_Size_eq n u
  have b1:=mul_bd w.m (tsT t)
  have b2:=mul_bd w.i (tsT u)
  rw [ref22_Between]
  have hn:tdT t < n∧tdT u < n:=⟨by omega,by omega⟩
  ·rw [e1 hn.1 (by omega),Option.bind_some,e2 hn.2 (by omega),Option.bind_some]
   dsimp only
   have hw:w64 (w64 (M * (tsT t:Int)) + w64 (I * (tsT u:Int))) = M * tsT t + I * tsT u:=by
    rw [w64_eq (n:=M * _) (by omega) (by omega),w64_eq (n:=I * _) (by omega) (by omega),w64_eq (by omega) (by omega)]
   have kt:=tsT_eq t
   have ku:=tsT_eq u
   have lt:=tlen t.Kids
   have ih:∀ x∈t.Kids,∀ y∈u.Kids,ref22_Between n x y ⟨R,M,I⟩ = some (dT R M I x y):=fun x hx y hy=>by
    have dx:=td_mem hx; have dy:=td_mem hy
    have sx:=ts_mem hx; have sy:=ts_mem hy
    rw [tdT_eq] at h1 h2
    exact between_eq w n x y (by omega) (by omega) (by omega) (by omega)
   rw [hw,dT_eq]
   by_cases c1:t.Kids.length = u.Kids.length
   ·rw [if_pos (show (t.Kids.length:Int) = u.Kids.length by omega)]
    by_cases c2:t.Sym = u.Sym
    ·rw [if_pos c2,if_pos ⟨c1,.inl c2⟩,if_pos c2,rangeL,if_pos (by omega)]
     refine (d_loop w u.Kids t.Kids u.Kids 0 0 _ ih (by simp) c1 (by omega) (by omega)).trans ?_
     rw [minI_eq]
    ·rw [if_neg c2]
     by_cases c3:R < 0
     ·rw [if_pos c3,if_neg (fun h=>h.2.elim c2 (fun h=>by omega))]
     ·have hr:=w.r
      rw [if_neg c3,if_pos ⟨c1,.inr (by omega)⟩,if_neg c2,rangeL,if_pos (by omega)]
      refine (d_loop w u.Kids t.Kids u.Kids 0 R _ ih (by simp) c1 (by omega) (by omega)).trans ?_
      rw [minI_eq]
   ·rw [if_neg (show ¬ (t.Kids.length:Int) = u.Kids.length by omega),if_neg (fun h=>c1 h.1)]
end Go.AM.S22

namespace Go.AM.S22
open Go Go.Proofs Go.AM
set_option linter.unusedVariables false
set_option maxRecDepth 100000
theorem iniG {R β:Type} {f:Int→β} {z0:β} {m:Nat} {z:List Int} (hz:z.length = m) {body:Nat→Unit→List β→(List β→Option R)→Option R} (hb:∀ i s n1 v,z[i]? = some v→s.length = m→s[i]? = some z0→body i () s n1 = n1 (s.set i (f v))) (k:List β→Option R) :
 ∀ (us p:List Int),z = p ++ us→rangeC body (List.replicate us.length ()) p.length (p.map f ++ List.replicate us.length z0) k = k (z.map f)
 | [],p,e=>by rw [List.length_nil,List.replicate_zero,rangeC,List.replicate_zero,List.append_nil,e,List.append_nil]
 | u :: us,p,e=>by
  have hzl:m = p.length + (us.length + 1):=by rw [← hz,e]; simp
  have hget:(p.map f ++ List.replicate (us.length + 1) z0)[p.length]? = some z0:=by
   rw [List.getElem?_append_right (by simp),List.length_map,Nat.sub_self,List.replicate_succ]; rfl
  rw [List.length_cons,List.replicate_succ,rangeC,hb p.length _ _ u (by rw [e,List.getElem?_append_right (Nat.le_refl _),Nat.sub_self]; rfl) (by simp; omega) hget]
  have h2:List.set (p.map f ++ List.replicate (us.length + 1) z0) p.length (f u) = (p ++ [u]).map f ++ List.replicate us.length z0:=by
   rw [List.set_append_right _ _ (by simp),List.length_map,Nat.sub_self,List.replicate_succ,List.set_cons_zero,List.map_append,List.append_assoc]; rfl
  rw [h2]
  have:=iniG hz hb k us (p ++ [u]) (by rw [e]; simp)
  rw [List.length_append] at this
  exact this
end Go.AM.S22

namespace Go.AM.S22
open Go Go.Proofs Go.AM
set_option linter.unusedVariables false
set_option maxRecDepth 100000
set_option maxHeartbeats 4000000
namespace Tab
open Go Go.Proofs Go.AM Go.AM.S22
def FAR:Int:=2199023255552
def newsC (I n:Int):Int:=if n = 0 then FAR else if I = 0 then 0 else if 1099511627776 < n then FAR else n * I
def sumC:List (List Int)→List Int→Int→Int
 | c :: cs,f :: fs,s=>sumC cs fs (min (s + gz c f) FAR)
 | _,_,s=>s
def keepC (R:Int) (sym:Int) (kids:List (List Int)) (x:Rule):Int :=
 if x.Sym≠sym∧R < 0 then FAR else if x.From.length = kids.length then sumC kids x.From (if x.Sym = sym then 0 else R) else FAR
def stC (R:Int) (sym:Int) (kids:List (List Int)) (row:List Int) (x:Rule):List Int:=row.set x.To.toNat (min (gz row x.To) (keepC R sym kids x))
def rowC (a:Automaton) (v:List Int) (R M I:Int) (sym:Int) (size:Nat) (kids:List (List Int)):List Int :=
 a.Rules.foldl (stC R sym kids) (v.map fun n=>min (M * (size:Int) + newsC I n) FAR)
mutual
def cosT (a:Automaton) (v:List Int) (R M I:Int):Tree→List Int
 | .mk s ks=>rowC a v R M I s (tsT (.mk s ks)) (cosL a v R M I ks)
def cosL (a:Automaton) (v:List Int) (R M I:Int):List Tree→List (List Int)
 | []=>[]
 | k :: ks=>cosT a v R M I k :: cosL a v R M I ks
end
theorem cosT_eq (a:Automaton) (v:List Int) (R M I:Int) (t:Tree):cosT a v R M I t = rowC a v R M I t.Sym (tsT t) (cosL a v R M I t.Kids):=by cases t; rw [cosT]
theorem cosL_map (a:Automaton) (v:List Int) (R M I:Int):∀ ks,cosL a v R M I ks = ks.map (cosT a v R M I)
 | []=>by rw [cosL]; rfl
 | k :: ks=>by rw [cosL,cosL_map a v R M I ks]; rfl
structure CV (m:Nat) (c:List Int):Prop where
 len:c.length = m
 bd:∀ x∈c,0≤x∧x≤FAR
theorem CV.gz {m:Nat} {c:List Int} (h:CV m c) (x:Int):0≤gz c x∧gz c x≤FAR:=by
 unfold S22.gz
 cases e:c[x.toNat]? with
 | none=>simp [FAR]
 | some y=>exact h.bd y (List.mem_of_getElem? e)
theorem CV.set {m:Nat} {c:List Int} (h:CV m c) (i:Nat) {s:Int} (h0:0≤s) (h1:s≤FAR):CV m (c.set i s) :=
 ⟨by rw [List.length_set,h.len],fun x hx=>by
  rcases List.mem_or_eq_of_mem_set hx with hx | rfl
  ·exact h.bd x hx
  ·exact ⟨h0,h1⟩⟩
theorem CV.idx {m:Nat} {c:List Int} (h:CV m c) {x:Int} (h0:0≤x) (h1:x < (m:Int)):idx c x = some (S22.gz c x):=idx_get h.len h0 h1
theorem CV.idxM {m:Nat} {c:List Int} (h:CV m c) {x:Int} (h0:0≤x) (h1:x < (m:Int)):idxM m c x = some (S22.gz c x):=by
 unfold Go.AM.idxM S22.gz
 rw [if_pos (by omega),List.getElem?_eq_getElem (by rw [h.len]; omega)]; rfl
theorem newsC_bd {I n:Int} (hi:0≤I∧I≤1000) (hn:0≤n):0≤newsC I n∧newsC I n≤1099511627776000:=by
 unfold newsC FAR
 split
 ·omega
 ·split
  ·omega
  ·split
   ·omega
   ·have:=Int.mul_nonneg hn hi.1
    have:=Int.mul_le_mul_of_nonneg_left hi.2 hn
    omega
theorem sumC_bd {m:Nat}:∀ (cs:List (List Int)) (f:List Int) (s:Int),(∀ c∈cs,CV m c)→0≤s→s≤FAR→0≤sumC cs f s∧sumC cs f s≤FAR
 | [],_,s,_,h0,h1=>by rw [sumC]; exact ⟨h0,h1⟩; all_goals (intros; contradiction)
 | c :: cs,[],s,_,h0,h1=>by rw [sumC]; exact ⟨h0,h1⟩; all_goals (intros; contradiction)
 | c :: cs,x :: f,s,h,h0,h1=>by
  have:=(h c (by simp)).gz x
  rw [sumC]
  exact sumC_bd cs f _ (fun d hd=>h d (List.mem_cons_of_mem _ hd)) (by unfold FAR at *; omega) (by omega)
theorem keepC_bd {m:Nat} {R sym:Int} {kids:List (List Int)} (hk:∀ c∈kids,CV m c) (hr:-1≤R∧R≤1000) (x:Rule):0≤keepC R sym kids x∧keepC R sym kids x≤FAR:=by
 unfold keepC
 split
 ·unfold FAR; omega
 ·rename_i h
  split
  ·refine sumC_bd kids _ _ hk ?_ ?_
   ·split
    ·omega
    ·rename_i h2
     have:¬ R < 0:=fun h3=>h ⟨h2,h3⟩
     omega
   ·unfold FAR; split <;> omega
  ·unfold FAR; omega
theorem stC_CV {m:Nat} {R sym:Int} {kids:List (List Int)} (hk:∀ c∈kids,CV m c) (hr:-1≤R∧R≤1000) {row:List Int} (h:CV m row) (x:Rule):CV m (stC R sym kids row x):=by
 have h1:=h.gz x.To
 have h2:=keepC_bd hk hr (sym:=sym) x
 exact h.set _ (by omega) (by omega)
theorem foldC_CV {m:Nat} {R sym:Int} {kids:List (List Int)} (hk:∀ c∈kids,CV m c) (hr:-1≤R∧R≤1000):∀ (l:List Rule) (row:List Int),CV m row→CV m (l.foldl (stC R sym kids) row)
 | [],_,h=>h
 | x :: l,row,h=>foldC_CV hk hr l _ (stC_CV hk hr h x)
theorem ini_CV {a:Automaton} {v:List Int} {M I:Int} (hv:ZV a.States.toNat v) (hm:0≤M∧M≤1000) (hi:0≤I∧I≤1000) (size:Nat):CV a.States.toNat (v.map fun n=>min (M * (size:Int) + newsC I n) FAR):=by
 refine ⟨by rw [List.length_map,hv.len],fun x hx=>?_⟩
 obtain ⟨n,hn,rfl⟩:=List.mem_map.1 hx
 have h1:=(newsC_bd hi (hv.bd n hn).1).1
 have h2:=(mul_bd hm size).1
 unfold FAR; omega
mutual
theorem cosT_CV {a:Automaton} {v:List Int} {R M I:Int} (hv:ZV a.States.toNat v) (w:WOk R M I):∀ t:Tree,CV a.States.toNat (cosT a v R M I t)
 | .mk s ks=>by
  rw [cosT,rowC]
  exact foldC_CV (cosL_CV hv w ks) w.r _ _ (ini_CV hv w.m w.i _)
theorem cosL_CV {a:Automaton} {v:List Int} {R M I:Int} (hv:ZV a.States.toNat v) (w:WOk R M I):∀ ks:List Tree,∀ c∈cosL a v R M I ks,CV a.States.toNat c
 | [],c,h=>by rw [cosL] at h; cases h
 | k :: ks,c,h=>by
  rw [cosL] at h
  rcases List.mem_cons.1 h with rfl | h
  ·exact cosT_CV hv w k
  ·exact cosL_CV hv w ks c h
end
def KR (C:Tree→List Int) (cost:List (List Int)) (roots:List Int) (ks:List Tree):Prop :=
 roots.length = ks.length∧∀ (i:Nat) k t,roots[i]? = some k→ks[i]? = some t→idx cost k = some (C t)
theorem keep_loop {m:Nat} {C:Tree→List Int} {cost:List (List Int)} {roots:List Int} {all:List Tree} (hk:KR C cost roots all) (hC:∀ t∈all,CV m (C t)) {Rr:Type}:∀ (f:List Int) (ks:List Tree) (i:Nat) (s:Int) (K:Int→Option Rr),
 all.drop i = ks→f.length = ks.length→(∀ x∈f,0≤x∧x < (m:Int))→0≤s→s≤FAR →
 rangeC (fun i1 x1 (s1:Int) n1=>(roots[i1]?).bind fun v3=>(idx cost v3).bind fun v4=>(idx v4 x1).bind fun v5=>(repair_least_int (w64 (s1 + v5)) 2199023255552).bind fun v6=>n1 v6) f i s K = K (sumC (ks.map C) f s)
 | [],ks,i,s,K,hd,hl,_,_,_=>by
  have:ks = []:=List.length_eq_zero_iff.1 hl.symm
  subst this
  rw [rangeC]; rfl
 | x :: f,[],_,_,_,_,h,_,_,_=>by cases h
 | x :: f,k :: ks,i,s,K,hd,hl,hf,h0,h1=>by
  have hy:all[i]? = some k:=by
   have:=List.getElem?_drop (xs:=all) (i:=i) (j:=0)
   rw [hd] at this
   simpa using this.symm
  have hd':all.drop (i + 1) = ks:=by
   have:all.drop (i + 1) = (all.drop i).drop 1:=by rw [List.drop_drop]
   rw [this,hd]; rfl
  have hil:=(List.getElem?_eq_some_iff.1 hy).1
  obtain ⟨q,hq⟩:∃ q,roots[i]? = some q:=⟨_,List.getElem?_eq_getElem (by rw [hk.1]; exact hil)⟩
  have hc:=hC k (List.mem_of_getElem? hy)
  have hx:=hf x (by simp)
  have hg:=hc.gz x
  unfold FAR at h1 hg
  rw [rangeC,hq,Option.bind_some,hk.2 i q k hq hy,Option.bind_some,hc.idx hx.1 hx.2,Option.bind_some,w64_eq (by omega) (by omega),least_eq,Option.bind_some]
  refine (keep_loop hk hC f ks (i + 1) (min (s + S22.gz (C k) x) 2199023255552) K hd' (by simpa using hl) (fun y hy=>hf y (List.mem_cons_of_mem _ hy)) (by omega) (by unfold FAR; omega)).trans ?_
  rw [List.map_cons,sumC]; rfl
theorem keep_eq {a:Automaton} (ha:OKa a) {C:Tree→List Int} {tb:repair_table} {u:Tree} {roots:List Int} {c:Nat} (hk:KR C tb.cost roots u.Kids) (hC:∀ t∈u.Kids,CV a.States.toNat (C t)) (ht:tb.tree[c]? = some u) (hr:tb.kids[c]? = some roots) (hs:tsT u≤80)
 (hw:-1≤tb.w.Relabel∧tb.w.Relabel≤1000) {x:Rule} (hx:x∈a.Rules):repair_table_keep_wxx tb x (c:Int) = some (keepC tb.w.Relabel u.Sym (u.Kids.map C) x):=by
 have hst:=ha.st
 have hfr:=ha.from' x hx
 have hfl:=ha.frm x hx
 have hlk:=tlen u.Kids
 have hts:=tsT_eq u
 have i1:idx tb.tree (c:Int) = some u:=by unfold idx; rw [if_pos (by omega),Int.toNat_natCast,ht]
 have i2:idx tb.kids (c:Int) = some roots:=by unfold idx; rw [if_pos (by omega),Int.toNat_natCast,hr]
 have hkl:=hk.1
 unfold repair_table_keep_wxx keepC
 rw [i1,Option.bind_some,List.length_map]
 by_cases e1:x.Sym = u.Sym
 ·rw [if_pos e1,if_neg (fun h=>h.1 e1),i2,Option.bind_some]
  by_cases e2:x.From.length = u.Kids.length
  ·rw [if_pos (show (x.From.length:Int) = roots.length by omega),if_pos e2,if_pos e1,rangeL,if_pos (by omega)]
   exact keep_loop hk hC x.From u.Kids 0 0 _ (by simp) e2 (fun y hy=>by have:=hfr y hy; omega) (by omega) (by unfold FAR; omega)
  ·rw [if_neg (show ¬ (x.From.length:Int) = roots.length by omega),if_neg e2]; rfl
 ·rw [if_neg e1]
  by_cases e3:tb.w.Relabel < 0
  ·rw [if_pos e3,if_pos ⟨e1,e3⟩]; rfl
  ·rw [if_neg e3,if_neg (fun h=>e3 h.2),i2,Option.bind_some]
   by_cases e2:x.From.length = u.Kids.length
   ·rw [if_pos (show (x.From.length:Int) = roots.length by omega),if_pos e2,if_neg e1,rangeL,if_pos (by omega)]
    exact keep_loop hk hC x.From u.Kids 0 tb.w.Relabel _ (by simp) e2 (fun y hy=>by have:=hfr y hy; omega) (by omega) (by unfold FAR; omega)
   ·rw [if_neg (show ¬ (x.From.length:Int) = roots.length by omega),if_neg e2]; rfl
theorem news_eq {m:Nat} {tb:repair_table} (hv:ZV m tb.size) (hi:0≤tb.w.Insert∧tb.w.Insert≤1000) {i:Nat} {n:Int} (h:tb.size[i]? = some n):repair_table_news_wx tb (i:Int) = some (newsC tb.w.Insert n):=by
 have hb:=hv.bd n (List.mem_of_getElem? h)
 unfold repair_table_news_wx newsC
 have:idx tb.size (i:Int) = some n:=by unfold idx; rw [if_pos (by omega),Int.toNat_natCast,h]
 rw [this,Option.bind_some]
 by_cases c1:n = 0
 ·rw [if_pos c1,if_pos c1]; rfl
 ·rw [if_neg c1,if_neg c1]
  by_cases c2:tb.w.Insert = 0
  ·rw [if_pos c2,if_pos c2]
  ·rw [if_neg c2,if_neg c2]
   by_cases c3:1099511627776 < n
   ·rw [if_pos c3,if_pos c3]; rfl
   ·have h1:=Int.mul_nonneg hb.1 hi.1
    have h2:=Int.mul_le_mul_of_nonneg_left hi.2 hb.1
    rw [if_neg c3,if_neg c3,w64_eq (by omega) (by omega)]
theorem rows_eq {a:Automaton} (ha:OKa a) {C:Tree→List Int} {tb:repair_table} {u:Tree} {roots:List Int} {c n:Nat} (hk:KR C tb.cost roots u.Kids) (hC:∀ t∈u.Kids,CV a.States.toNat (C t)) (ht:tb.tree[c]? = some u) (hr:tb.kids[c]? = some roots) (hs:tsT u≤80)
 (hv:ZV a.States.toNat tb.size) (hw:-1≤tb.w.Relabel∧tb.w.Relabel≤1000) (hm:0≤tb.w.Remove∧tb.w.Remove≤1000) (hi:0≤tb.w.Insert∧tb.w.Insert≤1000) {Rr:Type} (K:List Int→Option Rr) :
 (rangeI ((a.States).toNat:Int) (List.replicate a.States.toNat 0) (fun k1 i1 (s1:(List Int)) n1 =>
  (repair_table_news_wx tb ((i1:Nat):Int)).bind fun v13 =>
  (repair_least_int (w64 ((w64 (tb.w.Remove * (tsT u:Int))) + v13)) 2199023255552).bind fun v14 =>
  (idxM ((a.States).toNat) s1 ((i1:Nat):Int)).bind fun v15 =>
  n1 (List.set s1 i1 v14)) fun s1 =>
 rangeL a.Rules s1 (fun k2 i2 x2 (s2:(List Int)) n2 =>
  (idxM ((a.States).toNat) s2 x2.To).bind fun v10 =>
  (repair_table_keep_wxx tb x2 (c:Int)).bind fun v11 =>
  (repair_least_int v10 v11).bind fun v12 =>
  n2 (List.set s2 ((x2.To).toNat) v12)) K) = K (rowC a tb.size tb.w.Relabel tb.w.Remove tb.w.Insert u.Sym (tsT u) (u.Kids.map C)):=by
 have hst:=ha.st
 have hrl:=ha.rul
 have hm2:=mul_bd hm (tsT u)
 rw [rangeI,if_pos (by omega)]
 have hin:=iniG (R:=Rr) (f:=fun n=>min (tb.w.Remove * (tsT u:Int) + newsC tb.w.Insert n) FAR) (z0:=0) (m:=a.States.toNat) hv.len
  (body:=fun i1 (_:Unit) (s1:List Int) n1=>(repair_table_news_wx tb ((i1:Nat):Int)).bind fun v13 =>
   (repair_least_int (w64 ((w64 (tb.w.Remove * (tsT u:Int))) + v13)) 2199023255552).bind fun v14 =>
   (idxM ((a.States).toNat) s1 ((i1:Nat):Int)).bind fun v15=>n1 (List.set s1 i1 v14))
  (fun i s n1 v hz hl hg=>by
   have hlt:=(List.getElem?_eq_some_iff.1 hg).1
   have hb:=newsC_bd hi (hv.bd v (List.mem_of_getElem? hz)).1
   have hix:idxM a.States.toNat s (i:Int) = some 0:=by
    unfold idxM
    rw [if_pos (by omega),Int.toNat_natCast,hg]
   rw [news_eq hv hi hz,Option.bind_some,w64_eq (n:=tb.w.Remove * _) (by omega) (by omega),w64_eq (by omega) (by omega),least_eq,Option.bind_some,hix,Option.bind_some]; rfl)
  (fun s1=>rangeL a.Rules s1 (fun k2 i2 x2 (s2:(List Int)) n2 =>
   (idxM ((a.States).toNat) s2 x2.To).bind fun v10 =>
   (repair_table_keep_wxx tb x2 (c:Int)).bind fun v11 =>
   (repair_least_int v10 v11).bind fun v12 =>
   n2 (List.set s2 ((x2.To).toNat) v12)) K) tb.size [] rfl
 rw [hv.len] at hin
 simp only [List.length_nil,List.map_nil,List.nil_append,Int.toNat_natCast] at hin ⊢
 rw [hin,rangeL,if_pos (by omega)]
 have hKC:∀ c∈u.Kids.map C,CV a.States.toNat c:=fun c hc=>by
  obtain ⟨t,h1,rfl⟩:=List.mem_map.1 hc
  exact hC t h1
 refine (S22.foldC (step:=stC tb.w.Relabel u.Sym (u.Kids.map C)) (fun row=>CV a.States.toNat row) a.Rules 0 _ K (ini_CV hv hm hi _) (fun j x s n1 hx hI=>?_) fun x s hx hI=>stC_CV hKC hw hI x).1
 have hto:=ha.to x hx
 rw [hI.idxM hto.1 (by omega),Option.bind_some,keep_eq ha hk hC ht hr hs hw hx,Option.bind_some,least_eq,Option.bind_some]; rfl
end Tab
end Go.AM.S22

namespace Go.AM.S22
open Go Go.Proofs Go.AM
set_option linter.unusedVariables false
set_option maxRecDepth 100000
set_option maxHeartbeats 4000000
namespace Tab
open Go Go.Proofs Go.AM Go.AM.S22
def pl:PS→List Int
 | none=>[]
 | some (_,o,l)=>o.take l
def pk:PS→Prop
 | none=>True
 | some (_,o,l)=>l≤o.length
structure TB (a:Automaton) (v:List Int) (R M I:Int) (tb:repair_table) (c:Nat):Prop where
 a:tb.a = a
 w:tb.w = ⟨R,M,I⟩
 size:tb.size = v
 cost:tb.cost.length = c
 kids:tb.kids.length = c
 tree:tb.tree.length = c
theorem snoc_get {α:Type} {l:List α} {x:α} {c:Nat} (h:l.length = c):(l ++ [x])[c]? = some x:=by
 rw [List.getElem?_append_right (by omega),h,Nat.sub_self]; rfl
section
variable {a:Automaton} {v:List Int} {R M I:Int} {n:Nat}
theorem stp_eq (ha:OKa a) (hv:ZV a.States.toNat v) (w:WOk R M I) {u:Tree} (hd:tdT u < n) (hs:tsT u≤80) {p:PS} (hp:pk p) {tb:repair_table} {c:Nat} (ht:TB a v R M I tb c) (hc:c≤500)
 {base roots:List Int} (hb:base.length≤500) (he:pl p = base ++ roots) (hk:KR (cosT a v R M I) tb.cost roots u.Kids) :
 ∃ q,stp n a ⟨R,M,I⟩ (c:Int) u (p,tb) = some (q,⟨tb.a,tb.w,tb.size,tb.cost ++ [cosT a v R M I u],tb.kids ++ [roots],tb.tree ++ [u]⟩)∧pk q∧q≠none∧pl q = base ++ [(c:Int)]:=by
 have hst:=ha.st
 have hlk:=tlen u.Kids
 have hts:=tsT_eq u
 have hkl:=hk.1
 have hmk:mkz 8 a.States a.States (0:Int) = some (List.replicate a.States.toNat 0):=mk8_eq ha
 have hsz:=tree_Size_eq n u hd (by omega)
 have hcv:=cosT_CV hv w u
 have hall:allM 0 a.States.toNat (cosT a v R M I u) = some (cosT a v R M I u):=by
  unfold allM
  rw [if_pos (by rw [hcv.len]; omega),List.drop_zero,List.take_of_length_le (by rw [hcv.len]; exact Nat.le_refl _)]
 have hrow:∀ {Rr:Type} (K:List Int→Option Rr),_:=fun {Rr} K=>rows_eq (Rr:=Rr) ha (C:=cosT a v R M I) (tb:=⟨tb.a,tb.w,tb.size,tb.cost,tb.kids ++ [roots],tb.tree ++ [u]⟩) (u:=u) (roots:=roots) (c:=c) (n:=n) hk (fun t _=>cosT_CV hv w t) (snoc_get ht.tree) (snoc_get ht.kids) hs (by rw [ht.size]; exact hv) (by rw [ht.w]; exact w.r) (by rw [ht.w]; exact w.m) (by rw [ht.w]; exact w.i) K
 have hw:tb.w.Remove = M:=by rw [ht.w]
 have hcos:rowC a tb.size tb.w.Relabel tb.w.Remove tb.w.Insert u.Sym (tsT u) (u.Kids.map (cosT a v R M I)) = cosT a v R M I u:=by
  rw [cosT_eq,cosL_map,ht.size,ht.w]
 rw [hw] at hcos
 dsimp only at hrow
 rcases p with _ | ⟨g,o,l⟩
 ·have h0:base = []∧roots = []:=List.append_eq_nil_iff.1 he.symm
  obtain ⟨rfl,rfl⟩:=h0
  have hk0:u.Kids.length = 0:=hkl.symm
  have e0:tabRow0 n a ⟨R,M,I⟩ tb (c:Int) u = some (([(c:Int)],1),⟨tb.a,tb.w,tb.size,tb.cost ++ [cosT a v R M I u],tb.kids ++ [[]],tb.tree ++ [u]⟩):=by
   unfold tabRow0
   rw [app_ok (by simp; have:=ht.tree; omega),Option.bind_some,hk0]
   have hcut:cutM 0 (w64 (0 - ((0:Nat):Int))) = some 0:=rfl
   rw [hcut,Option.bind_some,app_ok (by simp; have:=ht.kids; omega),Option.bind_some]
   have happ:appM 8 0 ([]:List Int) [(c:Int)] = some [(c:Int)]:=rfl
   rw [happ,Option.bind_some,hmk,Option.bind_some,hsz,Option.bind_some]
   have:=hrow fun s2=>(allM 0 ((a.States).toNat) s2).bind fun v7=>(app 24 tb.cost [v7]).bind fun v8=>some (([(c:Int)],1),(repair_table.mk tb.a tb.w tb.size v8 (tb.kids ++ [[]]) (tb.tree ++ [u])))
   rw [hw] at this
   dsimp only at this ⊢
   rw [this,hcos,hall,Option.bind_some,app_ok (by simp; have:=ht.cost; omega)]; rfl
  exact ⟨_,by unfold stp; simp only []; rw [e0]; rfl,by simp [pk],by simp,by simp [pl]⟩
 ·simp only [pk] at hp
  simp only [pl] at he
  have hlen:=congrArg List.length he
  rw [List.length_take,List.length_append] at hlen
  have hl:l = base.length + u.Kids.length:=by omega
  have htk:o.take base.length = base:=by
   have:(o.take l).take base.length = base:=by rw [he,List.take_left']; rfl
   rw [List.take_take,show min base.length l = base.length by omega] at this
   exact this
  have hcl:slices_Clone_q o (l - base.length) base.length = some roots:=by
   unfold slices_Clone_q
   rw [if_pos (by omega)]
   have:(o.take l).drop base.length = roots:=by rw [he,List.drop_left']; rfl
   rw [List.drop_take] at this
   rw [this]
  have e0:tabRow n a ⟨R,M,I⟩ tb (c:Int) u o l = some ((base ++ [(c:Int)],base.length + 1),⟨tb.a,tb.w,tb.size,tb.cost ++ [cosT a v R M I u],tb.kids ++ [roots],tb.tree ++ [u]⟩):=by
   unfold tabRow
   rw [app_ok (by simp; have:=ht.tree; omega),Option.bind_some,cut_eq hl hb (by omega),Option.bind_some,hcl,Option.bind_some,app_ok (by simp; have:=ht.kids; omega),Option.bind_some]
   have happ:appM 8 base.length o [(c:Int)] = some (base ++ [(c:Int)]):=by
    unfold appM
    rw [if_pos (by simp; omega),htk]
   rw [happ,Option.bind_some,hmk,Option.bind_some,hsz,Option.bind_some]
   have:=hrow fun s2=>(allM 0 ((a.States).toNat) s2).bind fun v8=>(app 24 tb.cost [v8]).bind fun v9=>some ((base ++ [(c:Int)],base.length + 1),(repair_table.mk tb.a tb.w tb.size v9 (tb.kids ++ [roots]) (tb.tree ++ [u])))
   rw [hw] at this
   dsimp only at this ⊢
   rw [this,hcos,hall,Option.bind_some,app_ok (by simp; have:=ht.cost; omega)]; rfl
  refine ⟨_,by unfold stp; simp only []; rw [e0]; rfl,by simp [pk],by simp,?_⟩
  simp only [pl]
  rw [List.take_of_length_le (by simp)]
end
end Tab
end Go.AM.S22

namespace Go.AM.S22
open Go Go.Proofs Go.AM
set_option linter.unusedVariables false
set_option maxRecDepth 100000
set_option maxHeartbeats 4000000
namespace Tab
open Go Go.Proofs Go.AM Go.AM.S22
theorem gz_set {v:List Int} {s q n:Int} (hs:0≤s) (hl:s < v.length) (hq:0≤q):gz (v.set s.toNat n) q = if q = s then n else gz v q:=Sz.gv_set hs hl hq
theorem min_fold {m:Nat} {R sym:Int} {kids:List (List Int)} (hk:∀ c∈kids,CV m c) (hr:-1≤R∧R≤1000) {s:Int} (h0:0≤s):∀ (l:List Rule) (row:List Int),CV m row→(∀ x∈l,0≤x.To∧x.To < (m:Int)) →
 gz (l.foldl (stC R sym kids) row) s≤gz row s∧∀ x∈l,x.To = s→gz (l.foldl (stC R sym kids) row) s≤keepC R sym kids x
 | [],row,_,_=>⟨Int.le_refl _,fun x h=>by cases h⟩
 | y :: l,row,h,hto=>by
  have hy:=hto y (by simp)
  obtain ⟨i1,i2⟩:=min_fold hk hr h0 l _ (stC_CV hk hr h y) fun x hx=>hto x (List.mem_cons_of_mem _ hx)
  have hg:gz (stC R sym kids row y) s = if s = y.To then min (gz row y.To) (keepC R sym kids y) else gz row s:=gz_set hy.1 (by rw [h.len]; exact hy.2) h0
  rw [List.foldl_cons]
  rw [hg] at i1
  refine ⟨?_,fun x hx he=>?_⟩
  ·refine Int.le_trans i1 ?_
   split
   ·rename_i e; rw [e]; omega
   ·omega
  ·rcases List.mem_cons.1 hx with rfl | hx
   ·refine Int.le_trans i1 ?_
    rw [if_pos he.symm]; omega
   ·exact i2 x hx he
theorem derL_len {Rs:List Rule}:∀ {ks:List Tree} {f:List Int},Sz.DerL Rs ks f→ks.length = f.length
 | _,_,.nil=>rfl
 | _,_,.cons _ h=>by simp [derL_len h]
section
variable {a:Automaton} {v:List Int} {R M I:Int}
theorem ini_le (hv:ZV a.States.toNat v) (w:WOk R M I) (hL:Sz.Low a.Rules v) {u:Tree} {s:Int} (hd:Sz.Der a.Rules u s) (hs:tsT u≤1000000) (h0:0≤s) (h1:s < (a.States.toNat:Int)) (size:Nat) :
 gz (v.map fun n=>min (M * (size:Int) + newsC I n) FAR) s≤M * size + I * tsT u:=by
 have hg:gz (v.map fun n=>min (M * (size:Int) + newsC I n) FAR) s = min (M * (size:Int) + newsC I (gz v s)) FAR:=by
  unfold gz
  rw [List.getElem?_map,List.getElem?_eq_getElem (by rw [hv.len]; omega)]; rfl
 obtain ⟨l1,l2⟩:=hL u s hd
 rw [gv_gz] at l1 l2
 have hcap:Sz.capI (tsT u) = tsT u:=by unfold Sz.capI; rw [if_pos (by omega)]
 rw [hcap] at l2
 have hz:=hv.gz s
 have hi:=mul_bd w.i (tsT u)
 rw [hg]
 have:newsC I (gz v s)≤I * tsT u:=by
  unfold newsC
  rw [if_neg l1]
  split
  ·omega
  ·rw [if_neg (by omega),Int.mul_comm]
   exact Int.mul_le_mul_of_nonneg_left l2 w.i.1
 omega
mutual
theorem low_cost (ha:OKa a) (hv:ZV a.States.toNat v) (w:WOk R M I) (hL:Sz.Low a.Rules v):∀ (t u:Tree) (s:Int),Sz.Der a.Rules u s→tsT u≤1000000→gz (cosT a v R M I t) s≤dT R M I t u
 | .mk b ks,u,s,hd,hs=>by
  have hst:=ha.st
  cases hd with
  | @mk x qs hx hk =>
   have hto:=ha.to x hx
   have hd:Sz.Der a.Rules (.mk x.Sym qs) x.To:=.mk hx hk
   have hini:=ini_le hv w hL hd hs hto.1 (by omega) (tsT (.mk b ks))
   have hcv:=cosL_CV (R:=R) (M:=M) (I:=I) hv w ks
   obtain ⟨f1,f2⟩:=min_fold hcv w.r (sym:=b) hto.1 a.Rules _ (ini_CV hv w.m w.i (tsT (.mk b ks))) fun y hy=>by have:=ha.to y hy; omega
   have hfl:qs.length = x.From.length:=derL_len hk
   rw [dT,cosT,rowC]
   by_cases c:ks.length = qs.length∧(b = x.Sym∨0≤R)
   ·rw [if_pos c]
    have h1:=f2 x hx rfl
    have h2:keepC R b (cosL a v R M I ks) x = sumC (cosL a v R M I ks) x.From (if x.Sym = b then 0 else R):=by
     unfold keepC
     rw [if_neg (fun h=>c.2.elim (fun e=>h.1 e.symm) (fun e=>by omega)),if_pos (by rw [cosL_map,List.length_map]; omega)]
    have hts:tsL qs≤1000000:=by rw [tsT] at hs; omega
    have h3:=low_costL ha hv w hL ks qs x.From (if x.Sym = b then 0 else R) hk hts c.1
    rw [h2] at h1
    have h4:(if x.Sym = b then 0 else R) = (if b = x.Sym then 0 else R):=by
     by_cases e:b = x.Sym
     ·rw [if_pos e.symm,if_pos e]
     ·rw [if_neg (fun h=>e h.symm),if_neg e]
    rw [h4] at h1 h3
    show _≤min _ (_ + dL R M I ks qs)
    exact Int.le_min.2 ⟨Int.le_trans f1 hini,Int.le_trans h1 h3⟩
   ·rw [if_neg c]
    exact Int.le_trans f1 hini
theorem low_costL (ha:OKa a) (hv:ZV a.States.toNat v) (w:WOk R M I) (hL:Sz.Low a.Rules v):∀ (ks qs:List Tree) (f:List Int) (s:Int),Sz.DerL a.Rules qs f→tsL qs≤1000000→ks.length = qs.length→sumC (cosL a v R M I ks) f s≤s + dL R M I ks qs
 | [],[],f,s,h,_,_=>by
  cases h
  rw [cosL,sumC,dL]
  ·omega
  all_goals (intros; contradiction)
 | [],_ :: _,_,_,_,_,h=>by cases h
 | _ :: _,[],_,_,_,_,h=>by cases h
 | k :: ks,q :: qs,f,s,h,hs,hl=>by
  cases h with
  | @cons _ _ y f h1 h2 =>
   rw [tsL] at hs
   have i1:=low_cost ha hv w hL k q y h1 (by omega)
   have i2:=low_costL ha hv w hL ks qs f (min (s + gz (cosT a v R M I k) y) FAR) h2 (by omega) (by simpa using hl)
   rw [cosL,sumC,dL]
   omega
end
def Best (a:Automaton) (v C:List Int) (q:Int×Int):Prop :=
 (q.1 = -1∧∀ s∈a.Final,¬ 0 < gz v s)∨(q.1∈a.Final∧0≤q.1∧0 < gz v q.1∧q.2 = gz C q.1∧∀ s∈a.Final,0 < gz v s→q.2≤gz C s)
theorem best_eq (ha:OKa a) (hv:ZV a.States.toNat v) {C:List Int} (hC:CV a.States.toNat C) {tb:repair_table} {c:Nat} (hT:TB a v R M I tb c) (hc:1≤c∧c≤500) (hl:tb.cost[c - 1]? = some C) :
 ∃ q,repair_table_best_p tb = some q∧Best a v C q:=by
 have hst:=ha.st
 have hfl:=ha.fin
 have hix:idx tb.cost (w64 ((tb.cost.length:Int) - 1)) = some C:=by
  rw [hT.cost,w64_eq (by omega) (by omega)]
  unfold idx
  rw [if_pos (by omega),show ((c:Int) - 1).toNat = c - 1 by omega,hl]
 have H:∀ (body:Nat→Int→Int×Int→(Int×Int→Option (Int×Int))→Option (Int×Int)),(∀ i x q n1,0≤x→x < a.States→body i x q n1 = if 0 < gz v x then (if q.1 < 0 then n1 (x,gz C x) else if gz C x < q.2 then n1 (x,gz C x) else n1 (q.1,q.2)) else n1 (q.1,q.2)) →
  ∀ (l p:List Int) (i:Nat) (q:Int×Int) (K:Int×Int→Option (Int×Int)),(∀ s∈l,0≤s∧s < a.States)→(∀ s∈p,0≤s∧s < a.States) →
  ((q.1 = -1∧∀ s∈p,¬ 0 < gz v s)∨(q.1∈p∧0≤q.1∧0 < gz v q.1∧q.2 = gz C q.1∧∀ s∈p,0 < gz v s→q.2≤gz C s)) →
  ∃ q',rangeC body l i q K = K q'∧((q'.1 = -1∧∀ s∈p ++ l,¬ 0 < gz v s)∨(q'.1∈p ++ l∧0≤q'.1∧0 < gz v q'.1∧q'.2 = gz C q'.1∧∀ s∈p ++ l,0 < gz v s→q'.2≤gz C s)):=by
  intro body hb l
  induction l with
  | nil=>intro p i q K _ _ h; exact ⟨q,rfl,by simpa using h⟩
  | cons x l ih =>
   intro p i q K hx hp h
   have hx0:=hx x (by simp)
   have key:∀ q':Int×Int,((q'.1 = -1∧∀ s∈p ++ [x],¬ 0 < gz v s)∨(q'.1∈p ++ [x]∧0≤q'.1∧0 < gz v q'.1∧q'.2 = gz C q'.1∧∀ s∈p ++ [x],0 < gz v s→q'.2≤gz C s))→_:=fun q' hq=>ih (p ++ [x]) (i + 1) q' K (fun s hs=>hx s (List.mem_cons_of_mem _ hs)) (fun s hs=>by
    rcases List.mem_append.1 hs with hs | hs
    ·exact hp s hs
    ·rw [List.mem_singleton.1 hs]; exact hx0) hq
   simp only [List.append_assoc,List.singleton_append] at key
   rw [rangeC,hb _ _ _ _ hx0.1 hx0.2]
   have memx:∀ s,s∈p ++ x :: []↔s∈p∨s = x:=fun s=>by simp
   by_cases c1:0 < gz v x
   ·rw [if_pos c1]
    by_cases c2:q.1 < 0
    ·rw [if_pos c2]
     refine key (x,gz C x) (.inr ⟨by simp,hx0.1,c1,rfl,fun s hs h0=>?_⟩)
     rcases (memx s).1 hs with hs | rfl
     ·rcases h with ⟨_,h⟩ | ⟨_,h,_⟩
      ·exact absurd h0 (h s hs)
      ·omega
     ·exact Int.le_refl _
    ·rw [if_neg c2]
     rcases h with ⟨h,_⟩ | ⟨h1,h2,h3,h4,h5⟩
     ·omega
     ·by_cases c3:gz C x < q.2
      ·rw [if_pos c3]
       refine key (x,gz C x) (.inr ⟨by simp,hx0.1,c1,rfl,fun s hs h0=>?_⟩)
       rcases (memx s).1 hs with hs | rfl
       ·have:=h5 s hs h0
        show gz C x≤_
        omega
       ·exact Int.le_refl _
      ·rw [if_neg c3]
       refine key (q.1,q.2) (.inr ⟨by simp [h1],h2,h3,h4,fun s hs h0=>?_⟩)
       rcases (memx s).1 hs with hs | rfl
       ·exact h5 s hs h0
       ·show q.2≤_; omega
   ·rw [if_neg c1]
    refine key (q.1,q.2) ?_
    rcases h with ⟨h,h'⟩ | ⟨h1,h2,h3,h4,h5⟩
    ·refine .inl ⟨h,fun s hs=>?_⟩
     rcases (memx s).1 hs with hs | rfl
     ·exact h' s hs
     ·exact c1
    ·refine .inr ⟨by simp [h1],h2,h3,h4,fun s hs h0=>?_⟩
     rcases (memx s).1 hs with hs | rfl
     ·exact h5 s hs h0
     ·exact absurd h0 c1
 obtain ⟨q',h1,h2⟩:=H (fun k1 x1 (s1:Int×Int) n1 =>
  (idx tb.size x1).bind fun v1 =>
  if 0 < v1 then
   if s1.1 < 0 then
    (idx tb.cost (w64 ((tb.cost.length:Int) - 1))).bind fun v2 =>
    (idx v2 x1).bind fun v3 =>
    n1 (x1,v3)
   else
    (idx tb.cost (w64 ((tb.cost.length:Int) - 1))).bind fun v4 =>
    (idx v4 x1).bind fun v5 =>
    if v5 < s1.2 then
     n1 (x1,v5)
    else
     n1 (s1.1,s1.2)
  else
   n1 (s1.1,s1.2)) (fun i x q n1 h0 h1=>by
  have e1:idx tb.size x = some (gz v x):=by rw [hT.size]; exact idx_get hv.len h0 (by omega)
  have e2:idx C x = some (gz C x):=hC.idx h0 (by omega)
  rw [e1,Option.bind_some,hix]
  simp only [Option.bind_some,e2]) a.Final [] 0 (-1,0) (fun s1=>some (s1.1,s1.2)) (fun s hs=>ha.fins s hs) (fun s h=>by cases h) (.inl ⟨rfl,fun s h=>by cases h⟩)
 refine ⟨q',?_,by simpa [Best] using h2⟩
 unfold repair_table_best_p
 rw [rangeL,hT.a,if_pos (by omega)]
 exact h1
end
def wB (R M I:Int):Bool:=decide (-1≤R∧R≤1000∧0≤M∧M≤1000∧0≤I∧I≤1000)
theorem fits_1 (x y:Int):repair_fits_1 x y = some (decide (y≤x∧x≤1000)):=by
 unfold repair_fits_1
 by_cases c:y≤x
 ·rw [if_pos c]; simp [c]
 ·rw [if_neg c]; simp [c]
theorem fits_eq (R M I:Int):repair_fits ⟨R,M,I⟩ = some (wB R M I):=by
 unfold repair_fits wB
 simp only [fits_1,Option.bind_some,decide_eq_true_eq]
 by_cases c1:-1≤R∧R≤1000
 ·rw [if_pos c1]
  by_cases c2:0≤M∧M≤1000
  ·rw [if_pos c2]
   congr 1
   by_cases c3:0≤I∧I≤1000
   ·rw [decide_eq_true c3,decide_eq_true (by omega)]
   ·rw [decide_eq_false c3,decide_eq_false (by omega)]
  ·rw [if_neg c2,decide_eq_false (by omega)]
 ·rw [if_neg c1,decide_eq_false (by omega)]
theorem rfits_eq (R M I:Int):ref22_Valid ⟨R,M,I⟩ = some (wB R M I):=by
 unfold ref22_Valid wB
 dsimp only
 by_cases c1:-1≤R
 ·rw [if_pos c1]
  by_cases c2:R≤1000
  ·rw [if_pos c2]
   by_cases c3:0≤M
   ·rw [if_pos c3]
    by_cases c4:M≤1000
    ·rw [if_pos c4]
     by_cases c5:0≤I
     ·rw [if_pos c5]
      congr 1
      by_cases c6:I≤1000
      ·rw [decide_eq_true c6,decide_eq_true (by omega)]
      ·rw [decide_eq_false c6,decide_eq_false (by omega)]
     ·rw [if_neg c5,decide_eq_false (by omega)]
    ·rw [if_neg c4,decide_eq_false (by omega)]
   ·rw [if_neg c3,decide_eq_false (by omega)]
  ·rw [if_neg c2,decide_eq_false (by omega)]
 ·rw [if_neg c1,decide_eq_false (by omega)]
theorem wok_of {R M I:Int} (h:wB R M I = true):WOk R M I:=by
 unfold wB at h
 have:=of_decide_eq_true h
 exact ⟨by omega,by omega,by omega⟩
end Tab
end Go.AM.S22

namespace Go.AM
open Go
theorem hOf_pr {f:FuncId}:∀ {l:List (Nat×FH)},(l.all fun p=>p.2.pr.isNone) = true→(hOf l f).pr = none
 | [],_=>rfl
 | (k,h) :: r,ha=>by
  rw [List.all_cons,Bool.and_eq_true] at ha
  unfold hOf
  split
  ·have:=ha.1
   cases hp:h.pr with
   | none=>rfl
   | some p=>simp [hp] at this
  ·exact hOf_pr ha.2
section
variable {T:Tab}
theorem wt_int {n:Nat} {t:TypeId} {cs:List PV} (hd:(T.at t).d = .int .i64) (h:wt T n t cs):∃ i,cs = [iv i]∧-9223372036854775808≤i∧i≤9223372036854775807:=by
 cases n with
 | zero=>exact h.elim
 | succ n =>
  unfold wt at h
  rw [hd] at h
  obtain ⟨i,rfl,h1,h2⟩:=h
  refine ⟨i,rfl,?_⟩
  have e1:IntKind.i64.min = -9223372036854775808:=by decide
  have e2:IntKind.i64.max = 9223372036854775807:=by decide
  rw [e1] at h1; rw [e2] at h2
  exact ⟨h1,h2⟩
theorem wt_sl {n:Nat} {t e:TypeId} {cs:List PV} (hd:(T.at t).d = .sl e) (h:wt T n t cs):∃ m rows,n = m + 1∧cs = [.sl none (T.at e).size rows]∧rows.length < 9223372036854775808∧∀ r,r∈rows→wt T m e r:=by
 cases n with
 | zero=>exact h.elim
 | succ n =>
  unfold wt at h
  rw [hd] at h
  obtain ⟨rows,rfl,h1,h2⟩:=h
  have:maxLen < 9223372036854775808:=by decide
  exact ⟨n,rows,rfl,rfl,by omega,h2⟩
theorem wt_st {n:Nat} {t:TypeId} {fs:List (Nat×TypeId)} {cs:List PV} (hd:(T.at t).d = .st fs) (h:wt T n t cs):∃ m,n = m + 1∧cs.length = (T.at t).size∧∀ f,f∈fs→wt T m f.2 ((cs.drop f.1).take (T.at f.2).size):=by
 cases n with
 | zero=>exact h.elim
 | succ n =>
  unfold wt at h
  rw [hd] at h
  exact ⟨n,rfl,h⟩
theorem rows_map {α:Type} {row:α→List PV} {P:α→Prop}:∀ {rows:List (List PV)},(∀ r,r∈rows→∃ x,r = row x∧P x)→∃ xs:List α,rows = xs.map row∧∀ x,x∈xs→P x
 | [],_=>⟨[],rfl,by simp⟩
 | r :: rows,h=>by
  obtain ⟨x,rfl,hx⟩:=h r (by simp)
  obtain ⟨xs,rfl,hxs⟩:=rows_map (rows:=rows) (fun r' h'=>h r' (List.mem_cons_of_mem _ h'))
  exact ⟨x :: xs,rfl,fun y hy=>by
   rcases List.mem_cons.1 hy with rfl | hy
   ·exact hx
   ·exact hxs y hy⟩
theorem wt_slM {n:Nat} {t e:TypeId} {cs:List PV} {α:Type} {row:α→List PV} {P:α→Prop} (hd:(T.at t).d = .sl e) (h:wt T n t cs) (he:∀ m r,m < n→wt T m e r→∃ x,r = row x∧P x):∃ xs:List α,cs = [.sl none (T.at e).size (xs.map row)]∧xs.length < 9223372036854775808∧∀ x,x∈xs→P x:=by
 obtain ⟨m,rows,rfl,rfl,h1,h2⟩:=wt_sl hd h
 obtain ⟨xs,rfl,hx⟩:=rows_map (row:=row) (P:=P) (fun r hr=>he m r (by omega) (h2 r hr))
 exact ⟨xs,rfl,by simpa using h1,hx⟩
end
end Go.AM

namespace Go.AM.S22
open Go Go.Proofs Go.AM
set_option linter.unusedVariables false
theorem twL_all:∀ {l:List Tree},(∀ x,x∈l→twT x = true)→twL l = true
 | [],_=>by rw [twL]
 | x :: r,h=>by rw [twL,h x (by simp),twL_all (fun y hy=>h y (List.mem_cons_of_mem _ hy))]; rfl
theorem d3:(T.at 3).d = .int .i64:=rfl
theorem d30:(T.at 30).d = .st [(0,3),(1,28)]:=rfl
theorem d28:(T.at 28).d = .sl 30:=rfl
theorem d22:(T.at 22).d = .sl 3:=rfl
theorem d24:(T.at 24).d = .st [(0,22)]:=rfl
theorem d25:(T.at 25).d = .sl 64:=rfl
theorem d27:(T.at 27).d = .st [(0,3),(1,22),(2,25)]:=rfl
theorem d64:(T.at 64).d = .st [(0,3),(1,22),(2,3)]:=rfl
theorem sz3:(T.at 3).size = 1:=rfl
theorem sz28:(T.at 28).size = 1:=rfl
theorem sz30:(T.at 30).size = 2:=rfl
theorem sz22:(T.at 22).size = 1:=rfl
theorem sz24:(T.at 24).size = 1:=rfl
theorem sz25:(T.at 25).size = 1:=rfl
theorem sz27:(T.at 27).size = 3:=rfl
theorem sz64:(T.at 64).size = 3:=rfl
theorem wt30:∀ (n:Nat) (cs:List PV),wt T n 30 cs→∃ x:Tree,cs = row_Tree x∧twT x = true:=by
 intro n
 induction n using Nat.strongRecOn with
 | _ n ih =>
  intro cs h
  obtain ⟨m,rfl,h1,h2⟩:=wt_st d30 h
  rw [sz30] at h1
  match cs,h1 with
  | [c0,c1],_ =>
   have f0:=h2 (0,3) (by simp)
   have f1:=h2 (1,28) (by simp)
   simp only [sz3,sz28,List.drop_zero,List.drop_succ_cons,List.take_succ_cons,List.take_zero] at f0 f1
   obtain ⟨i,e0,_⟩:=wt_int d3 f0
   obtain ⟨xs,e1,hl,hx⟩:=wt_slM (row:=row_Tree) (P:=fun x=>twT x = true) d28 f1 (fun m' r hm hr=>ih m' (by omega) r hr)
   injection e0 with e0; subst e0
   injection e1 with e1; subst e1
   refine ⟨⟨i,xs⟩,by rw [row_Tree_eq,sz30],?_⟩
   rw [twT,decide_eq_true hl,twL_all hx]; rfl
theorem wt22 {n:Nat} {cs:List PV} (h:wt T n 22 cs):∃ r:List Int,cs = [.sl none 1 (r.map rowI)]∧r.length < 9223372036854775808:=by
 obtain ⟨xs,e,hl,_⟩:=wt_slM (row:=rowI) (P:=fun _=>True) d22 h (fun m' r _ hr=>by
  obtain ⟨i,e,_⟩:=wt_int d3 hr
  exact ⟨i,e,trivial⟩)
 rw [sz3] at e
 exact ⟨xs,e,hl⟩
theorem wt24 {n:Nat} {cs:List PV} (h:wt T n 24 cs):∃ r:List Int,cs = [.sl none 1 (r.map rowI)]:=by
 obtain ⟨m,rfl,h1,h2⟩:=wt_st d24 h
 rw [sz24] at h1
 match cs,h1 with
 | [c0],_ =>
  have f0:=h2 (0,22) (by simp)
  simp only [sz22,List.drop_zero,List.take_succ_cons,List.take_zero] at f0
  obtain ⟨r,e,_⟩:=wt22 f0
  exact ⟨r,e⟩
theorem wt64 {n:Nat} {cs:List PV} (h:wt T n 64 cs):∃ x:Rule,cs = row_Rule x∧x.From.length < 9223372036854775808:=by
 obtain ⟨m,rfl,h1,h2⟩:=wt_st d64 h
 rw [sz64] at h1
 match cs,h1 with
 | [c0,c1,c2],_ =>
  have f0:=h2 (0,3) (by simp)
  have f1:=h2 (1,22) (by simp)
  have f2:=h2 (2,3) (by simp)
  simp only [sz3,sz22,List.drop_zero,List.drop_succ_cons,List.take_succ_cons,List.take_zero] at f0 f1 f2
  obtain ⟨i,e0,_⟩:=wt_int d3 f0
  obtain ⟨xs,e1,hl⟩:=wt22 f1
  obtain ⟨j,e2,_⟩:=wt_int d3 f2
  injection e0 with e0; subst e0
  injection e1 with e1; subst e1
  injection e2 with e2; subst e2
  exact ⟨⟨i,xs,j⟩,rfl,hl⟩
theorem wt27 {n:Nat} {cs:List PV} (h:wt T n 27 cs):∃ a:Automaton,cs = row_Automaton a∧AW a:=by
 obtain ⟨m,rfl,h1,h2⟩:=wt_st d27 h
 rw [sz27] at h1
 match cs,h1 with
 | [c0,c1,c2],_ =>
  have f0:=h2 (0,3) (by simp)
  have f1:=h2 (1,22) (by simp)
  have f2:=h2 (2,25) (by simp)
  simp only [sz3,sz22,sz25,List.drop_zero,List.drop_succ_cons,List.take_succ_cons,List.take_zero] at f0 f1 f2
  obtain ⟨i,e0,_⟩:=wt_int d3 f0
  obtain ⟨xs,e1,hl⟩:=wt22 f1
  obtain ⟨rs,e2,hl2,hx⟩:=wt_slM (row:=row_Rule) (P:=fun x=>x.From.length < 9223372036854775808) d25 f2 (fun m' r _ hr=>wt64 hr)
  injection e0 with e0; subst e0
  injection e1 with e1; subst e1
  injection e2 with e2; subst e2
  exact ⟨⟨i,xs,rs⟩,rfl,hl,hl2,hx⟩
theorem primOk:PrimOk Try.prog GL H:=PrimOk.none fun f=>hOf_pr (by kernel_rfl)
end Go.AM.S22

namespace Go.AM.S22
open Go Go.Proofs Go.AM
set_option linter.unusedVariables false
set_option maxRecDepth 100000
set_option maxHeartbeats 4000000
namespace Tab
open Go Go.Proofs Go.AM Go.AM.S22
theorem awake_eq (m:Nat):law22_awake m = some true:=rfl
end Tab
theorem d43:(T.at 43).d = .st [(0,3),(1,3),(2,3)]:=rfl
theorem sz43:(T.at 43).size = 3:=rfl
theorem wt43 {n:Nat} {cs:List PV} (h:wt T n 43 cs):∃ w:ref22_Weights,cs = [iv w.Relabel,iv w.Remove,iv w.Insert]:=by
 obtain ⟨m,rfl,h1,h2⟩:=wt_st d43 h
 rw [sz43] at h1
 match cs,h1 with
 | [c0,c1,c2],_ =>
  have f0:=h2 (0,3) (by simp)
  have f1:=h2 (1,3) (by simp)
  have f2:=h2 (2,3) (by simp)
  simp only [sz3,List.drop_zero,List.drop_succ_cons,List.take_succ_cons,List.take_zero] at f0 f1 f2
  obtain ⟨i,e0,_⟩:=wt_int d3 f0
  obtain ⟨j,e1,_⟩:=wt_int d3 f1
  obtain ⟨k,e2,_⟩:=wt_int d3 f2
  injection e0 with e0; subst e0
  injection e1 with e1; subst e1
  injection e2 with e2; subst e2
  exact ⟨⟨i,j,k⟩,rfl⟩
end Go.AM.S22

namespace Go.AM.S22
open Go Go.Proofs Go.AM
set_option linter.unusedVariables false
set_option maxRecDepth 100000
set_option maxHeartbeats 4000000
namespace Fx
open Go Go.Proofs Go.AM Go.AM.S22
def rdStep (c:Bool×List Bool) (x:Rule):Bool×List Bool :=
 if x.From.all (fun y=>gb c.2 y) = true then (if gb c.2 x.To = true then (c.1,c.2) else (true,c.2.set x.To.toNat true)) else (c.1,c.2)
theorem bidxM {m:Nat} {b:List Bool} (h:b.length = m) {x:Int} (h0:0≤x) (h1:x < (m:Int)):idxM m b x = some (gb b x):=by
 unfold idxM gb
 rw [if_pos (by omega),List.getElem?_eq_getElem (by omega)]; rfl
theorem rd_inner {m:Nat} {b:List Bool} (h:b.length = m) {R:Type} (K:Bool→Option R):∀ (xs:List Int) (i:Nat) (s:Bool),(∀ x∈xs,0≤x∧x < (m:Int)) →
 rangeC (fun i13 x13 (s13:Bool) n13=>if s13 = true then (idxM m b x13).bind fun v4=>n13 v4 else n13 false) xs i s K = K (s && xs.all fun y=>gb b y)
 | [],i,s,_=>by rw [rangeC,List.all_nil,Bool.and_true]
 | x :: xs,i,s,hx=>by
  have h1:=hx x (by simp)
  rw [rangeC]
  cases s with
  | true =>
   rw [if_pos rfl,bidxM h h1.1 h1.2,Option.bind_some]
   refine (rd_inner h K xs (i + 1) (gb b x) (fun y hy=>hx y (List.mem_cons_of_mem _ hy))).trans ?_
   rw [List.all_cons,Bool.true_and]
  | false =>
   rw [if_neg (by decide)]
   refine (rd_inner h K xs (i + 1) false (fun y hy=>hx y (List.mem_cons_of_mem _ hy))).trans ?_
   simp
theorem set_gb {b:List Bool} {x:Int} (h:gb b x = true):b.set x.toNat true = b:=by
 refine List.ext_getElem? fun i=>?_
 by_cases e:x.toNat = i
 ·subst e
  unfold gb at h
  cases e:b[x.toNat]? with
  | none=>rw [e] at h; cases h
  | some y=>rw [e] at h; rw [List.getElem?_set_self (List.getElem?_eq_some_iff.1 e).1]; exact congrArg some h.symm
 ·rw [List.getElem?_set_ne e]
theorem rd_2 (c:Bool×List Bool) (x:Rule):(rdStep c x).2 = bstep c.2 x:=by
 unfold rdStep bstep
 split
 ·split
  ·rename_i h; exact (set_gb h).symm
  ·rfl
 ·rfl
theorem rd_f {c:Bool×List Bool} {x:Rule} (h:(rdStep c x).1 = false):rdStep c x = c:=by
 unfold rdStep at h ⊢
 split
 ·rename_i h1
  rw [if_pos h1] at h
  split
  ·rfl
  ·rename_i h2; rw [if_neg h2] at h; cases h
 ·rfl
theorem rd_t {c:Bool×List Bool} {x:Rule} (hx:0≤x.To∧x.To.toNat < c.2.length) (h:(rdStep c x).1 = true):c.1 = true∨cntB c.2 < cntB (rdStep c x).2:=by
 unfold rdStep at h ⊢
 split
 ·rename_i h1
  rw [if_pos h1] at h
  split
  ·rename_i h2; rw [if_pos h2] at h; exact .inl h
  ·rename_i h2
   right
   rcases cnt_set c.2 x.To.toNat with e | e
   ·exfalso; apply h2
    unfold gb
    rw [← e,List.getElem?_set_self hx.2]; rfl
   ·exact e
 ·rename_i h1; rw [if_neg h1] at h; exact .inl h
theorem rdf_2:∀ (l:List Rule) (c:Bool×List Bool),(l.foldl rdStep c).2 = l.foldl bstep c.2
 | [],_=>rfl
 | x :: l,c=>by rw [List.foldl_cons,List.foldl_cons,rdf_2 l,rd_2]
theorem rdf_f:∀ (l:List Rule) (c:Bool×List Bool),(l.foldl rdStep c).1 = false→l.foldl rdStep c = c
 | [],_,_=>rfl
 | x :: l,c,h=>by
  rw [List.foldl_cons] at h ⊢
  have e:=rdf_f l _ h
  rw [e] at h ⊢
  exact rd_f h
theorem bstep_len (b:List Bool) (x:Rule):(bstep b x).length = b.length:=by unfold bstep; split <;> simp
theorem bfold_len:∀ (l:List Rule) (b:List Bool),(l.foldl bstep b).length = b.length
 | [],_=>rfl
 | x :: l,b=>by rw [List.foldl_cons,bfold_len l,bstep_len]
theorem bfold_cnt (l:List Rule) (b:List Bool):cntB b≤cntB (l.foldl bstep b):=by
 rcases cnt_fold l b with e | e
 ·rw [e]; exact Nat.le_refl _
 ·omega
theorem rdf_t {m:Nat}:∀ (l:List Rule) (c:Bool×List Bool),c.2.length = m→(∀ x∈l,0≤x.To∧x.To < (m:Int))→(l.foldl rdStep c).1 = true→c.1 = true∨cntB c.2 < cntB (l.foldl rdStep c).2
 | [],_,_,_,h=>.inl h
 | x :: l,c,hm,hx,h=>by
  rw [List.foldl_cons] at h ⊢
  have hx0:=hx x (by simp)
  have hl:(rdStep c x).2.length = m:=by rw [rd_2,bstep_len,hm]
  have hc:cntB c.2≤cntB (rdStep c x).2:=by rw [rd_2]; rcases cnt_step c.2 x with e | e; rw [e]; exact Nat.le_refl _; omega
  have hc2:=bfold_cnt l (rdStep c x).2
  rcases rdf_t l _ hl (fun y hy=>hx y (List.mem_cons_of_mem _ hy)) h with e | e
  ·rcases rd_t (by omega) e with e | e
   ·exact .inl e
   ·right; rw [rdf_2]; omega
  ·right; omega
theorem rd_rules {a:Automaton} (ha:OKa a) {R:Type} (s:Bool×List Bool) (h:s.2.length = a.States.toNat) (k:Bool×List Bool→Option R) :
 rangeL a.Rules s (fun k12 i12 x12 (s12:Bool×(List Bool)) n12 =>
  rangeL x12.From true (fun k13 i13 x13 (s13:Bool) n13 =>
   if s13 = true then
    (idxM ((a.States).toNat) s12.2 x13).bind fun v4 =>
    n13 v4
   else
    n13 false) fun s13 =>
  if s13 = true then
   (idxM ((a.States).toNat) s12.2 x12.To).bind fun v3 =>
   if v3 = true then
    n12 (s12.1,s12.2)
   else
    n12 (true,(List.set s12.2 ((x12.To).toNat) true))
  else
   n12 (s12.1,s12.2)) k = k (a.Rules.foldl rdStep s):=by
 have hrul:=ha.rul
 have hst:=ha.st
 rw [rangeL,if_pos (by omega)]
 refine (foldC (fun s:Bool×List Bool=>s.2.length = a.States.toNat) (step:=rdStep) a.Rules 0 s k h (fun j x s n1 hx hs=>?_) (fun x s hx hs=>?_)).1
 ·have hto:=ha.to x hx
  have hfr:=ha.from' x hx
  have hfl:=ha.frm x hx
  rw [rangeL,if_pos (by omega),rd_inner hs _ x.From 0 true (fun y hy=>by have:=hfr y hy; omega),Bool.true_and]
  unfold rdStep
  by_cases c:(x.From.all fun y=>gb s.2 y) = true
  ·rw [if_pos c,if_pos c,bidxM hs hto.1 (by omega),Option.bind_some]
   by_cases c2:gb s.2 x.To = true
   ·rw [if_pos c2,if_pos c2]
   ·rw [if_neg c2,if_neg c2]
  ·rw [if_neg c,if_neg c]
 ·rw [rd_2,bstep_len,hs]
theorem mk1_eq {a:Automaton} (ha:OKa a):mkz 1 a.States a.States false = some (List.replicate a.States.toNat false):=by
 have hst:=ha.st
 unfold mkz
 rw [if_pos (by omega)]
theorem bpass_len (a:Automaton) (b:List Bool):(bpass a b).length = b.length:=bfold_len _ _
theorem reached_eq {a:Automaton} (ha:OKa a):∃ n0 b,(∀ n,n0≤n→ref03_Reached n a = some b)∧b.length = a.States.toNat∧∃ k,b = bit a k (List.replicate a.States.toNat false)∧bpass a b = b:=by
 have hst:=ha.st
 have hx:∀ x∈a.Rules,0≤x.To∧x.To < (a.States.toNat:Int):=fun x h=>by have:=ha.to x h; omega
 suffices H:∀ (M:Nat) (b:List Bool),b.length = a.States.toNat→a.States.toNat≤cntB b + M→∃ S,(∀ n,M + 2≤n→∀ k:Bool×List Bool→Option (List Bool),whileC (fun (s9:Bool×(List Bool)) n9 =>
  if s9.1 = true then
   rangeL a.Rules (false,s9.2) (fun k12 i12 x12 (s12:Bool×(List Bool)) n12 =>
    rangeL x12.From true (fun k13 i13 x13 (s13:Bool) n13 =>
     if s13 = true then
      (idxM ((a.States).toNat) s12.2 x13).bind fun v4 =>
      n13 v4
     else
      n13 false) fun s13 =>
    if s13 = true then
     (idxM ((a.States).toNat) s12.2 x12.To).bind fun v3 =>
     if v3 = true then
      n12 (s12.1,s12.2)
     else
      n12 (true,(List.set s12.2 ((x12.To).toNat) true))
    else
     n12 (s12.1,s12.2)) fun s12 =>
   n9 (s12.1,s12.2)
  else
   k (false,s9.2)) n (true,b) = k (false,S))∧S.length = a.States.toNat∧∃ k,S = bit a k b∧bpass a S = S by
  obtain ⟨S,e1,e2,e3⟩:=H _ _ (List.length_replicate ..) (Nat.le_add_left _ _)
  refine ⟨a.States.toNat + 2,S,fun n hn=>?_,e2,e3⟩
  unfold ref03_Reached
  rw [mk1_eq ha,Option.bind_some,whileL]
  refine (e1 n hn (fun s9=>(tkM ((a.States).toNat) s9.2).bind fun v2=>some v2)).trans ?_
  simp only []
  rw [tkM_eq e2]; rfl
 intro M
 induction M with
 | zero =>
  intro b h hm
  have hs:(a.Rules.foldl rdStep (false,b)).1 = false:=by
   cases c:(a.Rules.foldl rdStep (false,b)).1 with
   | false=>rfl
   | true =>
    rcases rdf_t a.Rules (false,b) h hx c with e | e
    ·cases e
    ·have:=cnt_le (a.Rules.foldl rdStep (false,b)).2
     rw [rdf_2,bfold_len] at this
     rw [rdf_2] at e
     dsimp only at this e
     omega
  have he:=rdf_f _ _ hs
  have hp:bpass a b = b:=by have:=rdf_2 a.Rules (false,b); rw [he] at this; exact this.symm
  refine ⟨b,fun n hn k=>?_,h,0,rfl,hp⟩
  obtain ⟨n,rfl⟩:∃ q,n = q + 2:=⟨n - 2,by omega⟩
  rw [whileC,if_pos rfl,rd_rules ha (false,b) h,he,whileC,if_neg (by simp)]
 | succ M ih =>
  intro b h hm
  cases c:(a.Rules.foldl rdStep (false,b)).1 with
  | false =>
   have he:=rdf_f _ _ c
   have hp:bpass a b = b:=by have:=rdf_2 a.Rules (false,b); rw [he] at this; exact this.symm
   refine ⟨b,fun n hn k=>?_,h,0,rfl,hp⟩
   obtain ⟨n,rfl⟩:∃ q,n = q + 2:=⟨n - 2,by omega⟩
   rw [whileC,if_pos rfl,rd_rules ha (false,b) h,he,whileC,if_neg (by simp)]
  | true =>
   have e2:=rdf_2 a.Rules (false,b)
   have hc:cntB b < cntB (bpass a b):=by
    rcases rdf_t a.Rules (false,b) h hx c with e | e
    ·cases e
    ·rw [e2] at e; exact e
   obtain ⟨S,f1,f2,k0,f3,f4⟩:=ih (bpass a b) (by rw [bpass_len,h]) (by omega)
   refine ⟨S,fun n hn k=>?_,f2,k0 + 1,by rw [f3,bit],f4⟩
   obtain ⟨n,rfl⟩:∃ q,n = q + 1:=⟨n - 1,by omega⟩
   rw [whileC,if_pos rfl,rd_rules ha (false,b) h]
   show whileC _ n ((a.Rules.foldl rdStep (false,b)).1,(a.Rules.foldl rdStep (false,b)).2) = _
   rw [c,e2]
   exact f1 n (by omega) k
def noneB (a:Automaton) (v:List Int):Bool:=a.Final.all fun s=>decide (¬ 0 < gz v s)
theorem none_eq {a:Automaton} (ha:OKa a):∃ n0 v,empty_sizes a = some v∧(∀ n,n0≤n→ref06_None n a = some (noneB a v)):=by
 have hst:=ha.st
 have hfin:=ha.fin
 have hx:∀ x∈a.Rules,0≤x.To∧x.To < (a.States.toNat:Int):=fun x h=>by have:=ha.to x h; omega
 obtain ⟨n0,b,e1,e2,k,e3,e4⟩:=reached_eq ha
 obtain ⟨j,f1,f2⟩:=iterE_stab hx (zero_ZV a.States.toNat)
 have hz:posV (List.replicate a.States.toNat 0) = List.replicate a.States.toNat false:=by unfold posV; simp
 rw [hz] at f1
 have hb:posV (iterE a a.States.toNat (List.replicate a.States.toNat 0)) = b:=by
  rw [f1] at f2
  rw [e3] at e4
  rw [f1,e3]
  exact stab_eq f2 e4
 refine ⟨n0,_,esizes_eq ha,fun n hn=>?_⟩
 generalize iterE a a.States.toNat (List.replicate a.States.toNat 0) = v at hb
 unfold ref06_None
 rw [e1 n hn,Option.bind_some,rangeL,if_pos (by omega)]
 unfold noneB
 have hF:=ha.fins
 revert hF
 generalize a.Final = l
 intro hF
 generalize 0 = i
 induction l generalizing i with
 | nil=>rw [rangeC]; rfl
 | cons s l ih =>
  have h1:=hF s (by simp)
  have hidx:idx b s = some (decide (0 < gz v s)):=by
   rw [← gb_pos,hb]
   unfold idx gb
   rw [if_pos h1.1,List.getElem?_eq_getElem (by omega)]; rfl
  rw [rangeC,hidx,Option.bind_some,List.all_cons]
  by_cases c:0 < gz v s
  ·rw [if_pos (decide_eq_true c),decide_eq_false (by omega),Bool.false_and]
  ·rw [if_neg (by rw [decide_eq_false c]; decide),decide_eq_true c,Bool.true_and]
   exact ih (fun y hy=>hF y (List.mem_cons_of_mem _ hy)) (i + 1)
end Fx
end Go.AM.S22

namespace Go.AM.S22
open Go Go.Proofs Go.AM
set_option linter.unusedVariables false
set_option maxRecDepth 100000
set_option maxHeartbeats 4000000
namespace Fx
open Go Go.Proofs Go.AM Go.AM.S22
theorem hRO {a:Automaton} (ha:OKa a):Sz.RO a.Rules a.States.toNat:=by
 have hst:=ha.st
 exact ⟨fun x hx=>by have:=ha.to x hx; omega,fun x hx s hs=>by have:=ha.from' x hx s hs; omega⟩
theorem smallest_low {a:Automaton} (ha:OKa a):∃ n0 S,(∀ n,n0≤n→ref06_Smallest n a = some S)∧ZV a.States.toNat S∧Sz.Good a.Rules a.States.toNat S∧Sz.Low a.Rules S:=by
 have hst:=ha.st
 have hR:=hRO ha
 have hx:∀ x∈a.Rules,0≤x.To∧x.To < (a.States.toNat:Int):=fun x h=>by have:=ha.to x h; omega
 have hfix:∀ v,ZV a.States.toNat v→Sz.Good a.Rules a.States.toNat v→passZ a v = (false,v)→Sz.Low a.Rules v:=fun v hz hg e=>by
  refine Sz.fix_low hR hg ?_
  have:=fold_eq a.Rules v false hz
  have e2:passZ a v = ((a.Rules.foldl Sz.stepR (v,false)).2,(a.Rules.foldl Sz.stepR (v,false)).1):=this
  rw [e] at e2
  exact (congrArg Prod.fst e2).symm
 have hgood:∀ v,ZV a.States.toNat v→Sz.Good a.Rules a.States.toNat v→Sz.Good a.Rules a.States.toNat (passZ a v).2:=fun v hz hg=>by
  have e2:passZ a v = ((a.Rules.foldl Sz.stepR (v,false)).2,(a.Rules.foldl Sz.stepR (v,false)).1):=fold_eq a.Rules v false hz
  rw [e2]
  exact (Sz.fold_ok hR a.Rules v false (fun _ h=>h) hg).1
 suffices H:∀ (M:Nat) (v:List Int),ZV a.States.toNat v→Sz.Good a.Rules a.States.toNat v→mesV v≤M→∃ S,(∀ n,M + 2≤n→∀ k:Bool×List Int→Option (List Int),whileC (fun (s9:Bool×(List Int)) n9 =>
  if s9.1 = true then
   rangeL a.Rules (false,s9.2) (fun k12 i12 x12 (s12:Bool×(List Int)) n12 =>
    rangeL x12.From 1 (fun k13 i13 x13 (s13:Int) n13 =>
     (idxM ((a.States).toNat) s12.2 x13).bind fun v4 =>
     if v4 = 0 then
      k13 0
     else
      (ref06_plus s13 v4).bind fun v5 =>
      n13 v5) fun s13 =>
    if 0 < s13 then
     (idxM ((a.States).toNat) s12.2 x12.To).bind fun v3 =>
     if v3 = 0 then
      n12 (true,(List.set s12.2 ((x12.To).toNat) s13))
     else
      if s13 < v3 then
       n12 (true,(List.set s12.2 ((x12.To).toNat) s13))
      else
       n12 (s12.1,s12.2)
    else
     n12 (s12.1,s12.2)) fun s12 =>
   n9 (s12.1,s12.2)
  else
   k (false,s9.2)) n (true,v) = k (false,S))∧ZV a.States.toNat S∧Sz.Good a.Rules a.States.toNat S∧Sz.Low a.Rules S by
  obtain ⟨S,e1,e2,e3⟩:=H _ _ (zero_ZV a.States.toNat) Sz.good_zero (Nat.le_refl _)
  refine ⟨mesV (List.replicate a.States.toNat 0) + 2,S,fun n hn=>?_,e2,e3⟩
  unfold ref06_Smallest
  rw [mk8_eq ha,Option.bind_some,whileL]
  refine (e1 n hn (fun s9=>(tkM ((a.States).toNat) s9.2).bind fun v2=>some v2)).trans ?_
  simp only []
  rw [tkM_eq e2.len]; rfl
 intro M
 induction M with
 | zero =>
  intro v h hg hm
  rcases passZ_mes h hx with e | ⟨_,e⟩
  ·refine ⟨v,fun n hn k=>?_,h,hg,hfix v h hg e⟩
   obtain ⟨n,rfl⟩:∃ q,n = q + 2:=⟨n - 2,by omega⟩
   rw [whileC,if_pos rfl,rRules ha (false,v) h]
   show whileC _ (n + 1) ((passZ a v).1,(passZ a v).2) = _
   rw [e,whileC,if_neg (by simp)]
  ·omega
 | succ M ih =>
  intro v h hg hm
  rcases passZ_mes h hx with e | ⟨e0,e⟩
  ·refine ⟨v,fun n hn k=>?_,h,hg,hfix v h hg e⟩
   obtain ⟨n,rfl⟩:∃ q,n = q + 2:=⟨n - 2,by omega⟩
   rw [whileC,if_pos rfl,rRules ha (false,v) h]
   show whileC _ (n + 1) ((passZ a v).1,(passZ a v).2) = _
   rw [e,whileC,if_neg (by simp)]
  ·obtain ⟨S,e1,e2,e3⟩:=ih (passZ a v).2 (passZ_ZV h) (hgood v h hg) (by omega)
   refine ⟨S,fun n hn k=>?_,e2,e3⟩
   obtain ⟨n,rfl⟩:∃ q,n = q + 1:=⟨n - 1,by omega⟩
   rw [whileC,if_pos rfl,rRules ha (false,v) h]
   show whileC _ n ((passZ a v).1,(passZ a v).2) = _
   rw [e0]
   exact e1 n (by omega) k
structure SZ (a:Automaton) (v:List Int) (n0:Nat):Prop where
 e:empty_sizes a = some v
 zv:ZV a.States.toNat v
 good:Sz.Good a.Rules a.States.toNat v
 low:Sz.Low a.Rules v
 sm:∀ n,n0≤n→ref06_Smallest n a = some v
 none:∀ n,n0≤n→ref06_None n a = some (noneB a v)
theorem sz_ex {a:Automaton} (ha:OKa a):∃ v n0,SZ a v n0:=by
 obtain ⟨v,h1,h2,h3,h4⟩:=sizes_low ha
 obtain ⟨n0,S,g1,g2,g3,g4⟩:=smallest_low ha
 obtain ⟨m0,v',f1,f2⟩:=none_eq ha
 rw [h1] at f1; injection f1 with f1; subst f1
 have hS:S = v:=Sz.good_low_eq g3 g4 h3 h4
 subst hS
 exact ⟨S,max n0 m0,h1,h2,h3,h4,fun n hn=>g1 n (by omega),fun n hn=>f2 n (by omega)⟩
end Fx
end Go.AM.S22

namespace Go.AM.S22
open Go Go.Proofs Go.AM
set_option linter.unusedVariables false
set_option maxRecDepth 100000
set_option maxHeartbeats 4000000
namespace Fx
open Go Go.Proofs Go.AM Go.AM.S22 Go.AM.S22.Tab
def HUGE:Int:=4503599627370496
def sumR:List (List Int)→List Int→Int→Int
 | c :: cs,f :: fs,s=>sumR cs fs (min (s + gz c f) HUGE)
 | _,_,s=>s
def stR (R sym:Int) (kids:List (List Int)) (row:List Int) (x:Rule):List Int :=
 if x.From.length = kids.length∧(x.Sym = sym∨0≤R) then row.set x.To.toNat (min (gz row x.To) (sumR kids x.From (if x.Sym = sym then 0 else R))) else row
def iniR (M I:Int) (size:Nat) (n:Int):Int:=if 0 < n then min (M * (size:Int) + I * min n 2199023255552) HUGE else HUGE
def rowR (a:Automaton) (v:List Int) (R M I:Int) (sym:Int) (size:Nat) (kids:List (List Int)):List Int :=
 a.Rules.foldl (stR R sym kids) (v.map (iniR M I size))
mutual
def cosR (a:Automaton) (v:List Int) (R M I:Int):Tree→List Int
 | .mk s ks=>rowR a v R M I s (tsT (.mk s ks)) (cosRL a v R M I ks)
def cosRL (a:Automaton) (v:List Int) (R M I:Int):List Tree→List (List Int)
 | []=>[]
 | k :: ks=>cosR a v R M I k :: cosRL a v R M I ks
end
theorem cosR_eq (a:Automaton) (v:List Int) (R M I:Int) (t:Tree):cosR a v R M I t = rowR a v R M I t.Sym (tsT t) (cosRL a v R M I t.Kids):=by cases t; rw [cosR]
theorem cosRL_map (a:Automaton) (v:List Int) (R M I:Int):∀ ks,cosRL a v R M I ks = ks.map (cosR a v R M I)
 | []=>by rw [cosRL]; rfl
 | k :: ks=>by rw [cosRL,cosRL_map a v R M I ks]; rfl
structure RV (m:Nat) (c:List Int):Prop where
 len:c.length = m
 bd:∀ x∈c,0≤x∧x≤HUGE
theorem RV.gz {m:Nat} {c:List Int} (h:RV m c) (x:Int):0≤gz c x∧gz c x≤HUGE:=by
 unfold S22.gz
 cases e:c[x.toNat]? with
 | none=>simp [HUGE]
 | some y=>exact h.bd y (List.mem_of_getElem? e)
theorem RV.set {m:Nat} {c:List Int} (h:RV m c) (i:Nat) {s:Int} (h0:0≤s) (h1:s≤HUGE):RV m (c.set i s) :=
 ⟨by rw [List.length_set,h.len],fun x hx=>by
  rcases List.mem_or_eq_of_mem_set hx with hx | rfl
  ·exact h.bd x hx
  ·exact ⟨h0,h1⟩⟩
theorem RV.idx {m:Nat} {c:List Int} (h:RV m c) {x:Int} (h0:0≤x) (h1:x < (m:Int)):idx c x = some (S22.gz c x):=idx_get h.len h0 h1
theorem RV.idxM {m:Nat} {c:List Int} (h:RV m c) {x:Int} (h0:0≤x) (h1:x < (m:Int)):idxM m c x = some (S22.gz c x):=by
 unfold Go.AM.idxM S22.gz
 rw [if_pos (by omega),List.getElem?_eq_getElem (by rw [h.len]; omega)]; rfl
theorem sumR_bd {m:Nat}:∀ (cs:List (List Int)) (f:List Int) (s:Int),(∀ c∈cs,RV m c)→0≤s→s≤HUGE→0≤sumR cs f s∧sumR cs f s≤HUGE
 | [],_,s,_,h0,h1=>by rw [sumR]; exact ⟨h0,h1⟩; all_goals (intros; contradiction)
 | c :: cs,[],s,_,h0,h1=>by rw [sumR]; exact ⟨h0,h1⟩; all_goals (intros; contradiction)
 | c :: cs,x :: f,s,h,h0,h1=>by
  have:=(h c (by simp)).gz x
  rw [sumR]
  exact sumR_bd cs f _ (fun d hd=>h d (List.mem_cons_of_mem _ hd)) (by unfold HUGE at *; omega) (by omega)
theorem stR_RV {m:Nat} {R sym:Int} {kids:List (List Int)} (hk:∀ c∈kids,RV m c) (hr:-1≤R∧R≤1000) {row:List Int} (h:RV m row) (x:Rule):RV m (stR R sym kids row x):=by
 unfold stR
 split
 ·rename_i hc
  have h1:=h.gz x.To
  have h2:=sumR_bd kids x.From (if x.Sym = sym then 0 else R) hk (by split; omega; have:=hc.2; omega) (by unfold HUGE; split <;> omega)
  exact h.set _ (by omega) (by omega)
 ·exact h
theorem foldR_RV {m:Nat} {R sym:Int} {kids:List (List Int)} (hk:∀ c∈kids,RV m c) (hr:-1≤R∧R≤1000):∀ (l:List Rule) (row:List Int),RV m row→RV m (l.foldl (stR R sym kids) row)
 | [],_,h=>h
 | x :: l,row,h=>foldR_RV hk hr l _ (stR_RV hk hr h x)
theorem mulI {I n:Int} (hi:0≤I∧I≤1000) (h0:0≤n):0≤I * n∧I * n≤1000 * n:=⟨Int.mul_nonneg hi.1 h0,Int.mul_le_mul_of_nonneg_right hi.2 h0⟩
theorem iniR_bd {M I:Int} (hm:0≤M∧M≤1000) (hi:0≤I∧I≤1000) (size:Nat) (n:Int):0≤iniR M I size n∧iniR M I size n≤HUGE:=by
 unfold iniR
 split
 ·have h1:=mulI hm (Int.natCast_nonneg size)
  have h2:=mulI hi (n:=min n 2199023255552) (by omega)
  unfold HUGE; omega
 ·unfold HUGE; omega
theorem ini_RV {a:Automaton} {v:List Int} {M I:Int} (hv:ZV a.States.toNat v) (hm:0≤M∧M≤1000) (hi:0≤I∧I≤1000) (size:Nat):RV a.States.toNat (v.map (iniR M I size)) :=
 ⟨by rw [List.length_map,hv.len],fun x hx=>by
  obtain ⟨n,hn,rfl⟩:=List.mem_map.1 hx
  exact iniR_bd hm hi size n⟩
mutual
theorem cosR_RV {a:Automaton} {v:List Int} {R M I:Int} (hv:ZV a.States.toNat v) (w:WOk R M I):∀ t:Tree,RV a.States.toNat (cosR a v R M I t)
 | .mk s ks=>by
  rw [cosR,rowR]
  exact foldR_RV (cosRL_RV hv w ks) w.r _ _ (ini_RV hv w.m w.i _)
theorem cosRL_RV {a:Automaton} {v:List Int} {R M I:Int} (hv:ZV a.States.toNat v) (w:WOk R M I):∀ ks:List Tree,∀ c∈cosRL a v R M I ks,RV a.States.toNat c
 | [],c,h=>by rw [cosRL] at h; cases h
 | k :: ks,c,h=>by
  rw [cosRL] at h
  rcases List.mem_cons.1 h with rfl | h
  ·exact cosR_RV hv w k
  ·exact cosRL_RV hv w ks c h
end
theorem add_eq {a b:Int} (h0:0≤a) (h1:a≤HUGE) (h2:0≤b) (h3:b≤HUGE):ref22_add a b = some (min (a + b) HUGE):=by
 unfold HUGE at *
 unfold ref22_add
 rw [w64_eq (by omega) (by omega),minI_eq]
theorem add_loop {m:Nat} {rows:List (List Int)} {Rr:Type} (K:Int→Option Rr):∀ (f:List Int) (ks:List (List Int)) (i:Nat) (s:Int),(∀ c∈ks,RV m c) →
 rows.drop i = ks→f.length = ks.length→(∀ x∈f,0≤x∧x < (m:Int))→0≤s→s≤HUGE →
 rangeC (fun i8 x8 (s8:Int) n8=>(rows[i8]?).bind fun v4=>(idx v4 x8).bind fun v5=>(ref22_add s8 v5).bind fun v6=>n8 v6) f i s K = K (sumR ks f s)
 | [],[],i,s,_,_,_,_,_,_=>by
  rw [rangeC,sumR]
  all_goals (intros; contradiction)
 | [],_ :: _,_,_,_,_,h,_,_,_=>by cases h
 | _ :: _,[],_,_,_,_,h,_,_,_=>by cases h
 | x :: f,c :: ks,i,s,hk,hd,hl,hx,h0,h1=>by
  have hc:rows[i]? = some c:=by
   have:=List.getElem?_drop (xs:=rows) (i:=i) (j:=0)
   rw [hd] at this
   simpa using this.symm
  have hd':rows.drop (i + 1) = ks:=by
   have:rows.drop (i + 1) = (rows.drop i).drop 1:=by rw [List.drop_drop]
   rw [this,hd]; rfl
  have hcr:=hk c (by simp)
  have hx1:=hx x (by simp)
  have hg:=hcr.gz x
  rw [rangeC,hc,Option.bind_some,hcr.idx hx1.1 hx1.2,Option.bind_some,add_eq h0 h1 hg.1 hg.2,Option.bind_some,sumR]
  exact add_loop K f ks (i + 1) (min (s + gz c x) HUGE) (fun d hd=>hk d (List.mem_cons_of_mem _ hd)) hd' (by simpa using hl) (fun y hy=>hx y (List.mem_cons_of_mem _ hy)) (by unfold HUGE at *; omega) (by omega)
theorem costs_eq {a:Automaton} (ha:OKa a) {v:List Int} (hv:ZV a.States.toNat v) {R M I:Int} (w:WOk R M I):∀ (n:Nat) (t:Tree),tdT t + 1 < n→tsT t≤80→ref22_costs n a v t ⟨R,M,I⟩ = some (cosR a v R M I t):=by
 intro n
 induction n with
 | zero=>intro t h; omega
 | succ n ih =>
  intro t hd hs
  have hkl:=tlen t.Kids
  have hts:=tsT_eq t
  have htd:=tdT_eq t
  have hst:=ha.st
  have hrl:=ha.rul
  rw [ref22_costs,rangeL,if_pos (by omega)]
  have hkids:∀ (l:List Tree) (i:Nat) (q:List (List Int)) (k:List (List Int)→Option (List Int)),(∀ x∈l,x∈t.Kids)→q.length + l.length≤1000→rangeC (fun i1 x1 (s1:(List (List Int))) n1=>(ref22_costs n a v x1 ⟨R,M,I⟩).bind fun v14=>(app 24 s1 [v14]).bind fun v15=>n1 v15) l i q k = k (q ++ cosRL a v R M I l):=by
   intro l
   induction l with
   | nil=>intro i q k _ _; rw [rangeC,cosRL,List.append_nil]
   | cons x l ihl =>
    intro i q k hm hq
    have hx:=td_mem (hm x (by simp))
    have hx2:=ts_mem (hm x (by simp))
    rw [List.length_cons] at hq
    rw [rangeC,ih x (by omega) (by omega)]
    simp only [Option.bind_some]
    rw [app_ok (by simp only [List.length_cons,List.length_nil]; omega)]
    simp only [Option.bind_some]
    rw [ihl _ _ _ (fun y hy=>hm y (List.mem_cons_of_mem _ hy)) (by simp only [List.length_append,List.length_cons,List.length_nil]; omega),cosRL]
    simp
  rw [hkids t.Kids 0 [] _ (fun _ h=>h) (by simp only [List.length_nil]; omega),List.nil_append,mk8_eq ha,Option.bind_some]
  have hK:=cosRL_RV hv w t.Kids
  have hKl:(cosRL a v R M I t.Kids).length = t.Kids.length:=by rw [cosRL_map,List.length_map]
  rw [rangeI,if_pos (by omega),Int.toNat_natCast]
  have hm2:=mulI w.m (Int.natCast_nonneg (tsT t))
  have hin:=iniG (R:=List Int) (f:=iniR M I (tsT t)) (z0:=0) (m:=a.States.toNat) hv.len
   (body:=fun i2 (_:Unit) (s2:List Int) n2 =>
    (idxM ((a.States).toNat) s2 (i2:Int)).bind fun v11 =>
   (v[i2]?).bind fun v12 =>
   if 0 < v12 then
    (ref01_Size n t).bind fun v13 =>
    (ref22_times M v13).bind fun v14 =>
    (ref22_times I v12).bind fun v15 =>
    (ref22_add v14 v15).bind fun v16 =>
    (idxM ((a.States).toNat) (List.set s2 i2 4503599627370496) (i2:Int)).bind fun v17 =>
    n2 (List.set (List.set s2 i2 4503599627370496) i2 v16)
   else
    n2 (List.set s2 i2 4503599627370496))
   (fun i s n1 x hz hl hg=>by
    have hlt:=(List.getElem?_eq_some_iff.1 hg).1
    have hxb:=hv.bd x (List.mem_of_getElem? hz)
    have hix:∀ (s':List Int) (y:Int),s'[i]? = some y→idxM a.States.toNat s' (i:Int) = some y:=fun s' y hy=>by
     unfold idxM
     rw [if_pos (by omega),Int.toNat_natCast,hy]
    rw [hix _ _ hg,Option.bind_some,hz,Option.bind_some]
    unfold iniR
    by_cases c:0 < x
    ·have h2:=mulI w.i (n:=min x 2199023255552) (by omega)
     have t1:ref22_times M (tsT t:Int) = some (M * (tsT t:Int)):=by
      unfold ref22_times
      rw [minI_eq,show min (tsT t:Int) 2199023255552 = (tsT t:Int) by omega,w64_eq (by omega) (by omega)]
     have t2:ref22_times I x = some (I * min x 2199023255552):=by
      unfold ref22_times
      rw [minI_eq,w64_eq (by omega) (by omega)]
     rw [if_pos c,if_pos c,ref01_Size_eq n t (by omega) (by omega),Option.bind_some,t1,Option.bind_some,t2,Option.bind_some,add_eq (by omega) (by unfold HUGE; omega) (by omega) (by unfold HUGE; omega),Option.bind_some,hix _ _ (List.getElem?_set_self hlt),Option.bind_some,List.set_set]
    ·rw [if_neg c,if_neg c]; rfl)
   (fun s2=>rangeL a.Rules s2 (fun k7 i7 x7 (s7:(List Int)) n7 =>
   if (x7.From.length:Int) = (t.Kids.length:Int) then
    if x7.Sym = t.Sym then
     rangeL x7.From 0 (fun k8 i8 x8 (s8:Int) n8 =>
      ((cosRL a v R M I t.Kids)[i8]?).bind fun v4 =>
      (idx v4 x8).bind fun v5 =>
      (ref22_add s8 v5).bind fun v6 =>
      n8 v6) fun s8 =>
     (idxM ((a.States).toNat) s7 x7.To).bind fun v3 =>
     n7 (List.set s7 ((x7.To).toNat) (minI v3 s8))
    else
     if R < 0 then
      n7 s7
     else
      rangeL x7.From R (fun k9 i9 x9 (s9:Int) n9 =>
       ((cosRL a v R M I t.Kids)[i9]?).bind fun v8 =>
       (idx v8 x9).bind fun v9 =>
       (ref22_add s9 v9).bind fun v10 =>
       n9 v10) fun s9 =>
      (idxM ((a.States).toNat) s7 x7.To).bind fun v7 =>
      n7 (List.set s7 ((x7.To).toNat) (minI v7 s9))
   else
    n7 s7) fun s7 =>
  (tkM ((a.States).toNat) s7).bind fun v2 =>
  some v2) v [] rfl
  rw [hv.len] at hin
  simp only [List.length_nil,List.map_nil,List.nil_append] at hin
  refine hin.trans ?_
  rw [rangeL,if_pos (by omega)]
  have hfold:=S22.foldC (R:=List Int) (step:=stR R t.Sym (cosRL a v R M I t.Kids)) (fun row=>RV a.States.toNat row) a.Rules 0 (v.map (iniR M I (tsT t))) (fun s7 =>
  (tkM ((a.States).toNat) s7).bind fun v2 =>
  some v2) (body:=fun i7 x7 (s7:(List Int)) n7 =>
   if (x7.From.length:Int) = (t.Kids.length:Int) then
    if x7.Sym = t.Sym then
     rangeL x7.From 0 (fun k8 i8 x8 (s8:Int) n8 =>
      ((cosRL a v R M I t.Kids)[i8]?).bind fun v4 =>
      (idx v4 x8).bind fun v5 =>
      (ref22_add s8 v5).bind fun v6 =>
      n8 v6) fun s8 =>
     (idxM ((a.States).toNat) s7 x7.To).bind fun v3 =>
     n7 (List.set s7 ((x7.To).toNat) (minI v3 s8))
    else
     if R < 0 then
      n7 s7
     else
      rangeL x7.From R (fun k9 i9 x9 (s9:Int) n9 =>
       ((cosRL a v R M I t.Kids)[i9]?).bind fun v8 =>
       (idx v8 x9).bind fun v9 =>
       (ref22_add s9 v9).bind fun v10 =>
       n9 v10) fun s9 =>
      (idxM ((a.States).toNat) s7 x7.To).bind fun v7 =>
      n7 (List.set s7 ((x7.To).toNat) (minI v7 s9))
   else
    n7 s7) (ini_RV hv w.m w.i _) (fun j x s n1 hx hI=>by
    have hto:=ha.to x hx
    have hfr:=ha.from' x hx
    have hfl:=ha.frm x hx
    have hwr:=w.r
    unfold stR
    by_cases c1:x.From.length = t.Kids.length
    ·rw [if_pos (by omega)]
     by_cases c2:x.Sym = t.Sym
     ·rw [if_pos c2,if_pos ⟨by omega,.inl c2⟩,if_pos c2,rangeL,if_pos (by omega)]
      refine (add_loop _ x.From _ 0 0 hK (List.drop_zero ..) (by omega) (fun y hy=>by have:=hfr y hy; omega) (by omega) (by unfold HUGE; omega)).trans ?_
      rw [hI.idxM hto.1 (by omega),Option.bind_some,minI_eq]
     ·rw [if_neg c2]
      by_cases c3:R < 0
      ·rw [if_pos c3,if_neg (fun h=>h.2.elim c2 (fun h=>by omega))]
      ·rw [if_neg c3,if_pos ⟨by omega,.inr (by omega)⟩,if_neg c2,rangeL,if_pos (by omega)]
       refine (add_loop _ x.From _ 0 R hK (List.drop_zero ..) (by omega) (fun y hy=>by have:=hfr y hy; omega) (by omega) (by unfold HUGE; omega)).trans ?_
       rw [hI.idxM hto.1 (by omega),Option.bind_some,minI_eq]
    ·rw [if_neg (by omega),if_neg (fun h=>c1 (by omega))]) (fun x s hx hI=>stR_RV hK w.r hI x)
  refine hfold.1.trans ?_
  rw [tkM_eq hfold.2.len,cosR_eq,rowR]; rfl
end Fx
end Go.AM.S22

namespace Go.AM.S22
open Go Go.Proofs Go.AM
set_option linter.unusedVariables false
set_option maxRecDepth 100000
set_option maxHeartbeats 4000000
namespace Fx
open Go Go.Proofs Go.AM Go.AM.S22 Go.AM.S22.Tab
def K0:Int:=1099511627777
def QR (m:Nat) (c d:List Int):Prop:=∀ s:Int,0≤s→s < (m:Int)→min (gz c s) K0 = min (gz d s) K0
theorem sum_sat {m:Nat} {C D:Tree→List Int}:∀ (ks:List Tree) (f:List Int) (s s':Int),(∀ k∈ks,CV m (C k)∧RV m (D k)∧QR m (C k) (D k))→(∀ x∈f,0≤x∧x < (m:Int))→0≤s→0≤s'→min s K0 = min s' K0→min (sumC (ks.map C) f s) K0 = min (sumR (ks.map D) f s') K0
 | [],f,s,s',_,_,_,_,h=>by
  rw [List.map_nil,List.map_nil,sumC,sumR]
  ·exact h
  all_goals (intros; contradiction)
 | k :: ks,[],s,s',_,_,_,_,h=>by
  rw [sumC,sumR]
  ·exact h
  all_goals (intros; contradiction)
 | k :: ks,y :: f,s,s',hk,hf,h0,h1,h=>by
  obtain ⟨k1,k2,k3⟩:=hk k (by simp)
  have hy:=hf y (by simp)
  have q:=k3 y hy.1 hy.2
  have b1:=k1.gz y
  have b2:=k2.gz y
  rw [List.map_cons,List.map_cons,sumC,sumR]
  refine sum_sat ks f _ _ (fun z hz=>hk z (List.mem_cons_of_mem _ hz)) (fun z hz=>hf z (List.mem_cons_of_mem _ hz)) ?_ ?_ ?_
  ·unfold FAR at *; omega
  ·unfold HUGE at *; omega
  ·unfold FAR HUGE K0 at *; omega
section
variable {a:Automaton} {v:List Int} {R M I:Int}
theorem ini_gz (hv:ZV a.States.toNat v) {s:Int} (h0:0≤s) (h1:s < (a.States.toNat:Int)) (f:Int→Int):gz (v.map f) s = f (gz v s):=by
 unfold gz
 rw [List.getElem?_map,List.getElem?_eq_getElem (by rw [hv.len]; omega)]; rfl
theorem ini_sat (hv:ZV a.States.toNat v) (w:WOk R M I) {size:Nat} (hs:size≤80):QR a.States.toNat (v.map fun n=>min (M * (size:Int) + newsC I n) FAR) (v.map (iniR M I size)):=by
 intro s h0 h1
 rw [ini_gz hv h0 h1,ini_gz hv h0 h1]
 have hz:=hv.gz s
 generalize gz v s = n at hz
 have hm:=mulI w.m (Int.natCast_nonneg size)
 unfold newsC iniR
 by_cases c1:n = 0
 ·rw [if_pos c1,if_neg (by omega)]
  unfold FAR HUGE K0; omega
 ·have hn:0 < n:=by omega
  rw [if_neg c1]
  by_cases c2:I = 0
  ·rw [if_pos c2,if_pos hn,c2,Int.zero_mul]
   unfold FAR HUGE K0; omega
  ·have hi:=w.i
   rw [if_neg c2]
   by_cases c3:1099511627776 < n
   ·rw [if_pos c3,if_pos hn]
    have:1 * min n 2199023255552≤I * min n 2199023255552:=Int.mul_le_mul_of_nonneg_right (by omega) (by omega)
    unfold FAR HUGE K0; omega
   ·rw [if_neg c3,if_pos hn,show min n 2199023255552 = n by omega,Int.mul_comm n I]
    have:=mulI hi (n:=n) (by omega)
    unfold FAR HUGE K0; omega
theorem step_sat {m:Nat} (w:WOk R M I) {C D:Tree→List Int} {ks:List Tree} (hk:∀ k∈ks,CV m (C k)∧RV m (D k)∧QR m (C k) (D k)) {sym:Int} {row row':List Int} (h1:CV m row) (h2:RV m row') (h:QR m row row') {x:Rule} (hx:0≤x.To∧x.To < (m:Int)) (hf:∀ y∈x.From,0≤y∧y < (m:Int)) :
 QR m (stC R sym (ks.map C) row x) (stR R sym (ks.map D) row' x):=by
 intro s s0 s1
 have hg:gz (stC R sym (ks.map C) row x) s = if s = x.To then min (gz row x.To) (keepC R sym (ks.map C) x) else gz row s:=gz_set hx.1 (by rw [h1.len]; exact hx.2) s0
 have hq:=h s s0 s1
 have hqt:=h x.To hx.1 hx.2
 have b1:=h1.gz x.To
 have b2:=h2.gz x.To
 have hgR:gz (stR R sym (ks.map D) row' x) s = if s = x.To then (if x.From.length = ks.length∧(x.Sym = sym∨0≤R) then min (gz row' x.To) (sumR (ks.map D) x.From (if x.Sym = sym then 0 else R)) else gz row' x.To) else gz row' s:=by
  unfold stR
  rw [List.length_map]
  by_cases c:x.From.length = ks.length∧(x.Sym = sym∨0≤R)
  ·rw [if_pos c,if_pos c]
   exact gz_set hx.1 (by rw [h2.len]; exact hx.2) s0
  ·rw [if_neg c,if_neg c]
   split
   ·rename_i e; rw [e]
   ·rfl
 rw [hg,hgR]
 by_cases e:s = x.To
 ·rw [if_pos e,if_pos e]
  unfold keepC
  rw [List.length_map]
  by_cases c1:x.Sym≠sym∧R < 0
  ·rw [if_pos c1,if_neg (fun h=>h.2.elim c1.1 (fun h=>by omega))]
   unfold FAR K0 at *; omega
  ·rw [if_neg c1]
   by_cases c2:x.From.length = ks.length
   ·rw [if_pos c2,if_pos (show x.From.length = ks.length∧(x.Sym = sym∨0≤R) from ⟨c2,by by_cases e:x.Sym = sym; exact .inl e; exact .inr (by omega)⟩)]
    have hs0:0≤(if x.Sym = sym then (0:Int) else R):=by split <;> omega
    have hsum:=sum_sat ks x.From (if x.Sym = sym then 0 else R) (if x.Sym = sym then 0 else R) hk hf hs0 hs0 rfl
    generalize sumC (ks.map C) x.From (if x.Sym = sym then 0 else R) = p at hsum ⊢
    generalize sumR (ks.map D) x.From (if x.Sym = sym then 0 else R) = q at hsum ⊢
    omega
   ·rw [if_neg c2,if_neg (fun h=>c2 h.1)]
    unfold FAR K0 at *; omega
 ·rw [if_neg e,if_neg e]; exact hq
theorem fold_sat {m:Nat} (w:WOk R M I) {C D:Tree→List Int} {ks:List Tree} (hk:∀ k∈ks,CV m (C k)∧RV m (D k)∧QR m (C k) (D k)) {sym:Int}:∀ (l:List Rule) (row row':List Int),CV m row→RV m row'→QR m row row'→(∀ x∈l,(0≤x.To∧x.To < (m:Int))∧∀ y∈x.From,0≤y∧y < (m:Int)) →
 QR m (l.foldl (stC R sym (ks.map C)) row) (l.foldl (stR R sym (ks.map D)) row')
 | [],_,_,_,_,h,_=>h
 | x :: l,row,row',h1,h2,h,hx=>by
  rw [List.foldl_cons,List.foldl_cons]
  have hx0:=hx x (by simp)
  refine fold_sat w hk l _ _ (stC_CV (fun c hc=>?_) w.r h1 x) (stR_RV (fun c hc=>?_) w.r h2 x) (step_sat w hk h1 h2 h hx0.1 hx0.2) fun y hy=>hx y (List.mem_cons_of_mem _ hy)
  ·obtain ⟨t,h1,rfl⟩:=List.mem_map.1 hc; exact (hk t h1).1
  ·obtain ⟨t,h1,rfl⟩:=List.mem_map.1 hc; exact (hk t h1).2.1
mutual
theorem cos_sat (ha:OKa a) (hv:ZV a.States.toNat v) (w:WOk R M I):∀ t:Tree,tsT t≤80→QR a.States.toNat (cosT a v R M I t) (cosR a v R M I t)
 | .mk s ks,hs=>by
  have hst:=ha.st
  rw [cosT,cosR,rowC,rowR,cosL_map,cosRL_map]
  refine fold_sat w (fun k hk=>⟨cosT_CV hv w k,cosR_RV hv w k,cosL_sat ha hv w ks (by rw [tsT] at hs; omega) k hk⟩) a.Rules _ _ (ini_CV hv w.m w.i _) (ini_RV hv w.m w.i _) (ini_sat hv w hs) fun x hx=>⟨?_,fun y hy=>?_⟩
  ·have:=ha.to x hx; omega
  ·have:=ha.from' x hx y hy; omega
theorem cosL_sat (ha:OKa a) (hv:ZV a.States.toNat v) (w:WOk R M I):∀ ks:List Tree,tsL ks≤80→∀ k∈ks,QR a.States.toNat (cosT a v R M I k) (cosR a v R M I k)
 | [],_,k,h=>by cases h
 | x :: ks,hs,k,h=>by
  rw [tsL] at hs
  have h1:=cos_sat ha hv w x (by omega)
  have h2:=cosL_sat ha hv w ks (by omega)
  rcases List.mem_cons.1 h with rfl | h
  ·exact h1
  ·exact h2 k h
end
theorem fold_inv {m:Nat} {sym:Int} {kids:List (List Int)} (hk:∀ c∈kids,CV m c) (hr:-1≤R∧R≤1000) {s:Int} (h0:0≤s):∀ (l:List Rule) (row:List Int),CV m row→(∀ x∈l,0≤x.To∧x.To < (m:Int)) →
 gz (l.foldl (stC R sym kids) row) s = gz row s∨∃ x∈l,x.To = s∧gz (l.foldl (stC R sym kids) row) s = keepC R sym kids x
 | [],row,_,_=>.inl rfl
 | y :: l,row,h,hto=>by
  have hy:=hto y (by simp)
  have hg:gz (stC R sym kids row y) s = if s = y.To then min (gz row y.To) (keepC R sym kids y) else gz row s:=gz_set hy.1 (by rw [h.len]; exact hy.2) h0
  rw [List.foldl_cons]
  rcases fold_inv hk hr h0 l _ (stC_CV hk hr h y) (fun x hx=>hto x (List.mem_cons_of_mem _ hx)) with e | ⟨x,x1,x2,x3⟩
  ·rw [hg] at e
   rw [e]
   split
   ·rename_i c
    subst c
    rcases Int.le_total (gz row y.To) (keepC R sym kids y) with c | c
    ·rw [Int.min_eq_left c]; exact .inl rfl
    ·rw [Int.min_eq_right c]; exact .inr ⟨y,by simp,rfl,rfl⟩
   ·exact .inl rfl
  ·exact .inr ⟨x,List.mem_cons_of_mem _ x1,x2,x3⟩
theorem sumC_ge {m:Nat}:∀ (cs:List (List Int)) (f:List Int) (s:Int),(∀ c∈cs,CV m c)→s≤FAR→s≤sumC cs f s
 | [],_,s,_,h1=>by rw [sumC]; exact Int.le_refl _; all_goals (intros; contradiction)
 | c :: cs,[],s,_,h1=>by rw [sumC]; exact Int.le_refl _; all_goals (intros; contradiction)
 | c :: cs,x :: f,s,h,h1=>by
  have:=(h c (by simp)).gz x
  rw [sumC]
  exact Int.le_trans (by omega) (sumC_ge cs f (min (s + gz c x) FAR) (fun d hd=>h d (List.mem_cons_of_mem _ hd)) (by omega))
theorem sumC_lt {m:Nat} {C:Tree→List Int}:∀ (ks:List Tree) (f:List Int) (s:Int),(∀ k∈ks,CV m (C k))→f.length = ks.length→0≤s→s≤FAR→sumC (ks.map C) f s < FAR→∀ y∈f,∃ k∈ks,gz (C k) y < FAR
 | [],[],s,_,_,_,_,_,y,hy=>by cases hy
 | [],_ :: _,_,_,h,_,_,_,_,_=>by cases h
 | _ :: _,[],_,_,h,_,_,_,_,_=>by cases h
 | k :: ks,z :: f,s,hk,hl,h0,h1,h,y,hy=>by
  have b:=(hk k (by simp)).gz z
  rw [List.map_cons,sumC] at h
  have hc:∀ c∈ks.map C,CV m c:=fun c hc=>by
   obtain ⟨t,h1,rfl⟩:=List.mem_map.1 hc; exact hk t (List.mem_cons_of_mem _ h1)
  have hg:=sumC_ge (ks.map C) f (min (s + gz (C k) z) FAR) hc (by omega)
  rcases List.mem_cons.1 hy with rfl | hy
  ·exact ⟨k,by simp,by omega⟩
  ·obtain ⟨q,q1,q2⟩:=sumC_lt ks f _ (fun t ht=>hk t (List.mem_cons_of_mem _ ht)) (by simpa using hl) (by unfold FAR at *; omega) (by omega) h y hy
   exact ⟨q,List.mem_cons_of_mem _ q1,q2⟩
theorem derL_ex {Rs:List Rule}:∀ f:List Int,(∀ y∈f,∃ t,Sz.Der Rs t y)→∃ ks,Sz.DerL Rs ks f
 | [],_=>⟨[],.nil⟩
 | y :: f,h=>by
  obtain ⟨t,ht⟩:=h y (by simp)
  obtain ⟨ks,hk⟩:=derL_ex f fun z hz=>h z (List.mem_cons_of_mem _ hz)
  exact ⟨t :: ks,.cons ht hk⟩
theorem to_pos (hR:Sz.RO a.Rules a.States.toNat) (hg:Sz.Good a.Rules a.States.toNat v) (hL:Sz.Low a.Rules v) {x:Rule} (hx:x∈a.Rules) (hf:∀ y∈x.From,gz v y≠0):gz v x.To≠0:=by
 obtain ⟨ks,hk⟩:=derL_ex (Rs:=a.Rules) x.From fun y hy=>by
  obtain ⟨t,h1,_⟩:=hg.2 y (hR.frm x hx y hy).1 (by rw [gv_gz]; exact hf y hy)
  exact ⟨t,h1⟩
 have:=(hL _ _ (.mk hx hk)).1
 rwa [gv_gz] at this
theorem cost_der (ha:OKa a) (hv:ZV a.States.toNat v) (w:WOk R M I) (hg:Sz.Good a.Rules a.States.toNat v) (hL:Sz.Low a.Rules v):∀ (n:Nat) (t:Tree) (s:Int),tsT t < n→0≤s→s < (a.States.toNat:Int)→gz (cosT a v R M I t) s < FAR→gz v s≠0:=by
 intro n
 induction n with
 | zero=>intro t s h; omega
 | succ n ih =>
  intro t s hn h0 h1 hc
  have hts:=tsT_eq t
  have hst:=ha.st
  rw [cosT_eq,rowC,cosL_map] at hc
  have hk:∀ c∈t.Kids.map (cosT a v R M I),CV a.States.toNat c:=fun c hc=>by
   obtain ⟨t,h1,rfl⟩:=List.mem_map.1 hc; exact cosT_CV hv w t
  have hm:=mulI w.m (Int.natCast_nonneg (tsT t))
  rcases fold_inv hk w.r h0 a.Rules _ (ini_CV hv w.m w.i (tsT t)) (fun x hx=>by have:=ha.to x hx; omega) with e | ⟨x,x1,x2,x3⟩
  ·rw [e,ini_gz hv h0 h1] at hc
   intro hz
   rw [hz] at hc
   unfold newsC at hc
   rw [if_pos rfl] at hc
   omega
  ·rw [x3] at hc
   unfold keepC at hc
   split at hc
   ·omega
   split at hc
   ·rename_i hs c
    rw [List.length_map] at c
    subst x2
    have hs0:0≤(if x.Sym = t.Sym then (0:Int) else R)∧(if x.Sym = t.Sym then (0:Int) else R)≤FAR:=by have:=w.r; unfold FAR; split <;> omega
    refine to_pos (hRO ha) hg hL x1 fun y hy=>?_
    obtain ⟨k,k1,k2⟩:=sumC_lt t.Kids x.From _ (fun k _=>cosT_CV hv w k) c hs0.1 hs0.2 hc y hy
    have:=ts_mem k1
    have hy2:=ha.from' x x1 y hy
    exact ih k y (by omega) hy2.1 (by omega) k2
   ·omega
end
end Fx
end Go.AM.S22

namespace Go.AM.S22
open Go Go.Proofs Go.AM
set_option linter.unusedVariables false
set_option maxRecDepth 100000
set_option maxHeartbeats 4000000
namespace Fx
open Go Go.Proofs Go.AM Go.AM.S22 Go.AM.S22.Tab
theorem least_fold (C:List Int):∀ (l:List Int) (h:Int),l.foldl (fun s x=>min s (gz C x)) h≤h∧(∀ x∈l,l.foldl (fun s x=>min s (gz C x)) h≤gz C x)∧(l.foldl (fun s x=>min s (gz C x)) h = h∨∃ x∈l,l.foldl (fun s x=>min s (gz C x)) h = gz C x)
 | [],h=>⟨Int.le_refl _,fun x hx=>(by cases hx),.inl rfl⟩
 | y :: l,h=>by
  obtain ⟨i1,i2,i3⟩:=least_fold C l (min h (gz C y))
  rw [List.foldl_cons]
  refine ⟨by omega,fun x hx=>?_,?_⟩
  ·rcases List.mem_cons.1 hx with rfl | hx
   ·omega
   ·exact i2 x hx
  ·rcases i3 with e | ⟨x,x1,x2⟩
   ·rw [e]
    rcases Int.le_total h (gz C y) with c | c
    ·rw [Int.min_eq_left c]; exact .inl rfl
    ·rw [Int.min_eq_right c]; exact .inr ⟨y,by simp,rfl⟩
   ·exact .inr ⟨x,List.mem_cons_of_mem _ x1,x2⟩
section
variable {a:Automaton} {v:List Int} {R M I:Int}
def leastR (a:Automaton) (v:List Int) (R M I:Int) (t:Tree):Int:=a.Final.foldl (fun s x=>min s (gz (cosR a v R M I t) x)) HUGE
def rCost (r:List Int) (a:Automaton) (v:List Int) (R M I:Int) (t:Tree):Int×Int :=
 if aV r a = true∧tvld r t = true then (if wB R M I = true then (if noneB a v = true then (0,5) else if 1099511627776 < leastR a v R M I t then (0,3) else (leastR a v R M I t,0)) else (0,6)) else (0,1)
theorem refCost_eq {n n0:Nat} {r:List Int} {t:Tree} (w:AW a) (hd:tdT t + 1 < n) (hw:twT t = true) (ha:aV r a = true→OKa a) (hs:tsT t≤80) (hz:aV r a = true→SZ a v n0) (hn:n0≤n):ref22_Cost n ⟨r⟩ a t ⟨R,M,I⟩ = some (rCost r a v R M I t):=by
 unfold ref22_Cost ref22_Asked rCost
 rw [rauto_eq r a w,Option.bind_some]
 by_cases c1:aV r a = true
 ·rw [if_pos c1,rtvalid_eq r (by omega) hw,Option.bind_some]
  by_cases c2:tvld r t = true
  ·rw [if_pos c2,Option.bind_some,if_pos rfl,rfits_eq,Option.bind_some,if_pos (show aV r a = true∧tvld r t = true from ⟨c1,c2⟩)]
   by_cases c3:wB R M I = true
   ·have hA:=ha c1
    have hZ:=hz c1
    have hW:=wok_of c3
    have hst:=hA.st
    have hfl:=hA.fin
    rw [if_pos c3,hZ.none n hn,Option.bind_some,if_pos c3]
    by_cases c4:noneB a v = true
    ·rw [if_pos c4,if_pos c4]
    ·rw [if_neg c4,if_neg c4,hZ.sm n hn,Option.bind_some,costs_eq hA hZ.zv hW n t hd hs,Option.bind_some,rangeL,if_pos (by omega)]
     have hRV:=cosR_RV hZ.zv hW t
     refine (S22.foldC (fun _:Int=>True) (step:=fun s x=>min s (gz (cosR a v R M I t) x)) a.Final 0 4503599627370496 _ trivial (fun j x s n1 hx _=>?_) (fun _ _ _ _=>trivial)).1.trans ?_
     ·have hx2:=hA.fins x hx
      rw [hRV.idx hx2.1 (by omega),Option.bind_some,minI_eq]
     ·show (if 1099511627776 < leastR a v R M I t then some ((0:Int),(3:Int)) else some (leastR a v R M I t,0)) = _
      split <;> rfl
   ·rw [if_neg c3,if_neg c3]
  ·rw [if_neg c2,Option.bind_some,if_neg (by decide),if_neg (fun h=>c2 h.2)]
 ·rw [if_neg c1,Option.bind_some,if_neg (by decide),if_neg (fun h=>c1 h.1)]
theorem best_rel {n0:Nat} (ha:OKa a) (hZ:SZ a v n0) (w:WOk R M I) {t:Tree} (hs:tsT t≤80) {q:Int×Int} (hq:Best a v (cosT a v R M I t) q) :
 (q.1 < 0→noneB a v = true)∧(0≤q.1→noneB a v = false∧min q.2 K0 = min (leastR a v R M I t) K0∧0≤q.2):=by
 have hst:=ha.st
 have hC:=cosT_CV (R:=R) (M:=M) (I:=I) hZ.zv w t
 have hS:=cos_sat (R:=R) (M:=M) (I:=I) ha hZ.zv w t hs
 refine ⟨fun h=>?_,fun h=>?_⟩
 ·rcases hq with ⟨_,q2⟩ | ⟨_,q2,_⟩
  ·unfold noneB
   rw [List.all_eq_true]
   exact fun s hs=>decide_eq_true (q2 s hs)
  ·omega
 ·rcases hq with ⟨q1,_⟩ | ⟨q1,_,q3,q4,q5⟩
  ·omega
  have hqf:=ha.fins _ q1
  refine ⟨?_,?_,?_⟩
  ·cases c:noneB a v with
   | false=>rfl
   | true =>
    unfold noneB at c
    rw [List.all_eq_true] at c
    exact absurd q3 (of_decide_eq_true (c _ q1))
  ·obtain ⟨l1,l2,l3⟩:=least_fold (cosR a v R M I t) a.Final HUGE
   have e1:=hS q.1 hqf.1 (by omega)
   have e2:=l2 q.1 q1
   rw [← q4] at e1
   show _ = min (a.Final.foldl _ HUGE) K0
   rcases l3 with e | ⟨x,x1,x2⟩
   ·rw [e] at e2 ⊢
    unfold HUGE K0 at *; omega
   ·rw [x2] at e2 ⊢
    have hxf:=ha.fins _ x1
    have e3:=hS x hxf.1 (by omega)
    by_cases c:0 < gz v x
    ·have:=q5 x x1 c
     omega
    ·have hg:=hZ.zv.gz x
     have:¬ gz (cosT a v R M I t) x < FAR:=fun h=>by
      have:=cost_der ha hZ.zv w hZ.good hZ.low (tsT t + 1) t x (by omega) hxf.1 (by omega) h
      omega
     unfold FAR K0 at *; omega
  ·rw [q4]; exact (hC.gz q.1).1
end
end Fx
end Go.AM.S22

namespace Go.AM.S22
open Go Go.Proofs Go.AM
set_option linter.unusedVariables false
set_option maxRecDepth 100000
set_option maxHeartbeats 4000000
namespace Fx
open Go Go.Proofs Go.AM Go.AM.S22 Go.AM.S22.Tab
mutual
def NodeT (C:Tree→List Int) (tb:repair_table):Tree→Int→Prop
 | .mk s ks,c=>0≤c∧tb.tree[c.toNat]? = some (.mk s ks)∧tb.cost[c.toNat]? = some (C (.mk s ks))∧∃ roots,tb.kids[c.toNat]? = some roots∧NodeL C tb ks roots
def NodeL (C:Tree→List Int) (tb:repair_table):List Tree→List Int→Prop
 | [],[]=>True
 | k :: ks,r :: rs=>NodeT C tb k r∧NodeL C tb ks rs
 | _,_=>False
end
def Ext (tb tb':repair_table):Prop:=∃ e1 e2 e3,tb'.tree = tb.tree ++ e1∧tb'.cost = tb.cost ++ e2∧tb'.kids = tb.kids ++ e3
theorem Ext.refl (tb:repair_table):Ext tb tb:=⟨[],[],[],by simp,by simp,by simp⟩
theorem Ext.trans {x y z:repair_table} (h:Ext x y) (k:Ext y z):Ext x z:=by
 obtain ⟨a,b,c,h1,h2,h3⟩:=h
 obtain ⟨a',b',c',k1,k2,k3⟩:=k
 exact ⟨a ++ a',b ++ b',c ++ c',by rw [k1,h1,List.append_assoc],by rw [k2,h2,List.append_assoc],by rw [k3,h3,List.append_assoc]⟩
theorem get_ext {α:Type} {l e:List α} {i:Nat} {x:α} (h:l[i]? = some x):(l ++ e)[i]? = some x:=by
 rw [List.getElem?_append_left (List.getElem?_eq_some_iff.1 h).1]; exact h
mutual
theorem NodeT.ext {C:Tree→List Int} {tb tb':repair_table} (h:Ext tb tb'):∀ (t:Tree) (c:Int),NodeT C tb t c→NodeT C tb' t c
 | .mk s ks,c,hn=>by
  rw [NodeT] at hn ⊢
  obtain ⟨e1,e2,e3,h1,h2,h3⟩:=h
  obtain ⟨n0,n1,n2,roots,n3,n4⟩:=hn
  exact ⟨n0,by rw [h1]; exact get_ext n1,by rw [h2]; exact get_ext n2,roots,by rw [h3]; exact get_ext n3,NodeL.ext ⟨e1,e2,e3,h1,h2,h3⟩ ks roots n4⟩
theorem NodeL.ext {C:Tree→List Int} {tb tb':repair_table} (h:Ext tb tb'):∀ (ks:List Tree) (rs:List Int),NodeL C tb ks rs→NodeL C tb' ks rs
 | [],[],_=>by rw [NodeL]; trivial
 | k :: ks,r :: rs,hn=>by
  rw [NodeL] at hn ⊢
  exact ⟨NodeT.ext h k r hn.1,NodeL.ext h ks rs hn.2⟩
 | [],_ :: _,hn=>by rw [NodeL] at hn; exact hn.elim; all_goals (intros; contradiction)
 | _ :: _,[],hn=>by rw [NodeL] at hn; exact hn.elim; all_goals (intros; contradiction)
end
theorem NodeT.out {C:Tree→List Int} {tb:repair_table} {t:Tree} {c:Int} (h:NodeT C tb t c):0≤c∧tb.tree[c.toNat]? = some t∧tb.cost[c.toNat]? = some (C t)∧∃ roots,tb.kids[c.toNat]? = some roots∧NodeL C tb t.Kids roots:=by
 cases t; rw [NodeT] at h; exact h
theorem NodeL.kr {C:Tree→List Int} {tb:repair_table}:∀ (ks:List Tree) (rs:List Int),NodeL C tb ks rs→KR C tb.cost rs ks
 | [],[],_=>⟨rfl,fun i k t h=>by simp at h⟩
 | k :: ks,r :: rs,hn=>by
  rw [NodeL] at hn
  have ih:=NodeL.kr ks rs hn.2
  refine ⟨by simp [ih.1],fun i k' t h1 h2=>?_⟩
  cases i with
  | zero =>
   simp at h1 h2
   subst h1; subst h2
   obtain ⟨n0,_,n2,_⟩:=hn.1.out
   unfold idx
   rw [if_pos n0,n2]
  | succ i=>exact ih.2 i k' t (by simpa using h1) (by simpa using h2)
 | [],_ :: _,hn=>by rw [NodeL] at hn; exact hn.elim; all_goals (intros; contradiction)
 | _ :: _,[],hn=>by rw [NodeL] at hn; exact hn.elim; all_goals (intros; contradiction)
section
variable {a:Automaton} {v:List Int} {R M I:Int} {n:Nat}
theorem walk2_eq (ha:OKa a) (hv:ZV a.States.toNat v) (w:WOk R M I):∀ (k:Nat) (t:Tree) (p:PS) (tb:repair_table) (c:Nat),tdT t < k→tdT t < n→tsT t≤80→pk p→TB a v R M I tb c→(Tab.pl p).length + tsT t≤500→c + tsT t≤500 →
 ∃ q tb',walk n a ⟨R,M,I⟩ k t ((p,tb),(c:Int)) = some ((q,tb'),((c + tsT t:Nat):Int))∧pk q∧q≠none∧Tab.pl q = Tab.pl p ++ [((c + tsT t - 1:Nat):Int)]∧TB a v R M I tb' (c + tsT t)∧Ext tb tb'∧NodeT (cosT a v R M I) tb' t ((c + tsT t - 1:Nat):Int):=by
 intro k
 induction k with
 | zero=>intro t p tb c h; omega
 | succ k ih =>
  intro t p tb c hd hn hs hp hT hb hcb
  have hkl:=tlen t.Kids
  have hts:=tsT_eq t
  have htd:=tdT_eq t
  rw [walk,rangeL,if_pos (by omega)]
  suffices H:∀ (l:List Tree) (i:Nat) (p:PS) (tb:repair_table) (c:Nat) (K:TS×Int→Option (TS×Int)),(∀ x∈l,x∈t.Kids)→pk p→TB a v R M I tb c→(Tab.pl p).length + tsL l≤500→c + tsL l≤500 →
   ∃ q tb' roots,rangeC (fun (_:Nat) x1 s1 n1=>(walk n a ⟨R,M,I⟩ k x1 s1).bind fun v=>n1 v) l i ((p,tb),(c:Int)) K = K ((q,tb'),((c + tsL l:Nat):Int))∧pk q∧Tab.pl q = Tab.pl p ++ roots∧TB a v R M I tb' (c + tsL l)∧Ext tb tb'∧NodeL (cosT a v R M I) tb' l roots by
   obtain ⟨q,tb',roots,h1,h2,h3,h4,h5,h6⟩:=H t.Kids 0 p tb c _ (fun _ h=>h) hp hT (by omega) (by omega)
   obtain ⟨q2,e1,e2,e3,e4⟩:=stp_eq (n:=n) ha hv w (u:=t) hn hs h2 h4 (by omega) (base:=Tab.pl p) (by omega) h3 h6.kr
   rw [h1]
   dsimp only
   rw [w64_eq (n:=((c + tsL t.Kids:Nat):Int) + 1) (by omega) (by omega),w64_eq (by omega) (by omega),show ((c + tsL t.Kids:Nat):Int) + 1 - 1 = ((c + tsL t.Kids:Nat):Int) by omega,e1,Option.bind_some]
   have hE:Ext tb' ⟨tb'.a,tb'.w,tb'.size,tb'.cost ++ [cosT a v R M I t],tb'.kids ++ [roots],tb'.tree ++ [t]⟩:=⟨[t],[cosT a v R M I t],[roots],rfl,rfl,rfl⟩
   refine ⟨q2,⟨tb'.a,tb'.w,tb'.size,tb'.cost ++ [cosT a v R M I t],tb'.kids ++ [roots],tb'.tree ++ [t]⟩,?_,e2,e3,?_,⟨h4.a,h4.w,h4.size,by simp [h4.cost]; omega,by simp [h4.kids]; omega,by simp [h4.tree]; omega⟩,h5.trans hE,?_⟩
   ·congr 3; omega
   ·rw [e4]; congr 3; omega
   ·have hi:(((c + tsT t - 1:Nat):Int)).toNat = c + tsL t.Kids:=by omega
    have q1:(tb'.tree ++ [t])[c + tsL t.Kids]? = some t:=snoc_get h4.tree
    have q2:(tb'.cost ++ [cosT a v R M I t])[c + tsL t.Kids]? = some (cosT a v R M I t):=snoc_get h4.cost
    have q3:(tb'.kids ++ [roots])[c + tsL t.Kids]? = some roots:=snoc_get h4.kids
    have q4:=h6.ext hE
    cases t with
    | mk s ks =>
     rw [NodeT,hi]
     exact ⟨by omega,q1,q2,roots,q3,q4⟩
  intro l
  induction l with
  | nil =>
   intro i p tb c K _ hp hT _ _
   exact ⟨p,tb,[],by rw [rangeC]; simp [tsL],hp,by simp,by simpa [tsL] using hT,Ext.refl _,by rw [NodeL]; trivial⟩
  | cons x l ihl =>
   intro i p tb c K hm hp hT hb hc
   have hx:=td_mem (hm x (by simp))
   have hx2:=ts_mem (hm x (by simp))
   have hx3:=tsT_eq x
   rw [tsL] at hb hc
   obtain ⟨q,tb1,e1,e2,e3,e4,e5,e6,e7⟩:=ih x p tb c (by omega) (by omega) (by omega) hp hT (by omega) (by omega)
   have hq:(Tab.pl q).length = (Tab.pl p).length + 1:=by rw [e4]; simp
   obtain ⟨q2,tb2,roots,f1,f2,f3,f4,f5,f6⟩:=ihl (i + 1) q tb1 (c + tsT x) K (fun y hy=>hm y (List.mem_cons_of_mem _ hy)) e2 e5 (by omega) (by omega)
   refine ⟨q2,tb2,((c + tsT x - 1:Nat):Int) :: roots,?_,f2,?_,?_,e6.trans f5,by rw [NodeL]; exact ⟨e7.ext f5,f6⟩⟩
   ·rw [rangeC,e1]
    refine Eq.trans f1 ?_
    rw [tsL,Nat.add_assoc]
   ·rw [f3,e4,List.append_assoc]; rfl
   ·rw [tsL,← Nat.add_assoc]; exact f4
theorem tableOf2_eq (ha:OKa a) (hv:ZV a.States.toNat v) (w:WOk R M I) {r:List Int} {t:Tree} (hS:empty_Sizes ⟨r⟩ a = some (v,0)) (hd:tdT t < n) (hs:tsT t≤80) :
 ∃ tb,repair_tableOf n ⟨r⟩ a t ⟨R,M,I⟩ = some (tb,0)∧TB a v R M I tb (tsT t)∧NodeT (cosT a v R M I) tb t ((tsT t - 1:Nat):Int):=by
 have h1:=tsT_eq t
 obtain ⟨q,tb,e1,e2,e3,e4,e5,e6,e7⟩:=walk2_eq (n:=n) ha hv w n t none ⟨a,⟨R,M,I⟩,v,[],[],[]⟩ 0 hd hd hs trivial ⟨rfl,rfl,rfl,rfl,rfl,rfl⟩ (by simp [Tab.pl]; omega) (by omega)
 rw [Nat.zero_add] at e5 e7
 unfold repair_tableOf
 rw [hS,Option.bind_some,if_pos rfl]
 dsimp only
 rw [show ((0:Nat):Int) = 0 from rfl] at e1
 rw [e1,Option.bind_some]
 cases q with
 | none=>exact absurd rfl e3
 | some q=>exact ⟨tb,rfl,e5,e7⟩
theorem checked_eq {n0:Nat} {r:List Int} {t:Tree} (w:AW a) (hd:tdT t < n) (hw:twT t = true) (ha:aV r a = true→OKa a) (hs:tsT t≤80) (hz:aV r a = true→SZ a v n0) :
 (¬ (aV r a = true∧tvld r t = true)∧repair_checked n ⟨r⟩ a t ⟨R,M,I⟩ = some (none,0,0,1)) ∨
 (aV r a = true∧tvld r t = true∧¬ wB R M I = true∧repair_checked n ⟨r⟩ a t ⟨R,M,I⟩ = some (none,0,0,6)) ∨
 (aV r a = true∧tvld r t = true∧wB R M I = true∧∃ q,Best a v (cosT a v R M I t) q ∧
  ((q.1 < 0∧repair_checked n ⟨r⟩ a t ⟨R,M,I⟩ = some (none,0,0,5))∨(0≤q.1∧1099511627776 < q.2∧repair_checked n ⟨r⟩ a t ⟨R,M,I⟩ = some (none,0,0,3)) ∨
   (0≤q.1∧q.2≤1099511627776∧∃ tb,repair_checked n ⟨r⟩ a t ⟨R,M,I⟩ = some (some tb,q.1,q.2,0)∧TB a v R M I tb (tsT t)∧NodeT (cosT a v R M I) tb t ((tsT t - 1:Nat):Int)))):=by
 unfold repair_checked
 rw [auto_eq r a w,Option.bind_some]
 by_cases c1:aV r a = true
 ·rw [if_pos c1,tvalid_eq r hd hw,Option.bind_some]
  by_cases c2:tvld r t = true
  ·rw [if_pos c2,fits_eq,Option.bind_some]
   by_cases c3:wB R M I = true
   ·have hA:=ha c1
    have hZ:=hz c1
    have hW:=wok_of c3
    have hS:empty_Sizes ⟨r⟩ a = some (v,0):=by
     unfold empty_Sizes
     rw [auto_eq r a w,Option.bind_some,if_pos c1,hZ.e]; rfl
    obtain ⟨tb,e1,e2,e3⟩:=tableOf2_eq (n:=n) hA hZ.zv hW hS hd hs
    have hts:=tsT_eq t
    obtain ⟨_,_,e4,_⟩:=e3.out
    rw [Int.toNat_natCast] at e4
    obtain ⟨q,q1,q2⟩:=best_eq hA hZ.zv (cosT_CV hZ.zv hW t) e2 (by omega) e4
    rw [if_pos c3,e1,Option.bind_some,if_pos rfl,q1,Option.bind_some]
    refine .inr (.inr ⟨c1,c2,c3,q,q2,?_⟩)
    by_cases d1:q.1 < 0
    ·rw [if_pos d1]; exact .inl ⟨d1,rfl⟩
    ·rw [if_neg d1]
     by_cases d2:1099511627776 < q.2
     ·rw [if_pos d2]; exact .inr (.inl ⟨by omega,d2,rfl⟩)
     ·rw [if_neg d2]; exact .inr (.inr ⟨by omega,by omega,tb,rfl,e2,e3⟩)
   ·rw [if_neg c3]; exact .inr (.inl ⟨c1,c2,c3,rfl⟩)
  ·rw [if_neg c2]; exact .inl ⟨fun h=>c2 h.2,rfl⟩
 ·rw [if_neg c1]; exact .inl ⟨fun h=>c1 h.1,rfl⟩
end
end Fx
end Go.AM.S22

