/-
  Goes on where the text before it ends.
  Conditions: none beside the given statement's own.
-/
import Derived.Test.YtojkepidkmkmpaaRows
import Derived.WalkKit
import Derived.ProofKit
import Derived.OpenShut
import Derived.ShutString
import Derived.ChangeOld
import Derived.Below
import Derived.SizedLaws
import Derived.Test.YtojkepidkmkmpaaPSLVe
set_option linter.unusedVariables false
set_option linter.unusedSimpArgs false
section
set_option linter.unusedSimpArgs false
set_option linter.unusedVariables false
namespace Go.Proofs.Ytojkepidkmkmpaa.Pure
open Go.RowKit Go.Proofs.Ytojkepidkmkmpaa.PFnSolved Go.Proofs.YtojkepidkmkmpaaW.PrintWords Go.Proofs.YtojkepidkmkmpaaW.PrintLast Go.Proofs.YtojkepidkmkmpaaW.PrintMore Go.Proofs.YtojkepidkmkmpaaAlg
theorem wrap_id {x:Int} (h1:-9223372036854775808≤x) (h2:x<9223372036854775808):wrap64 x=x:=by unfold wrap64;omega
theorem rd_nat (l:List Int) (i:Nat) (h:i<l.length):rd l (i:Int)=l[i]:=by
 unfold rd;rw [Int.toNat_natCast,List.getD_eq_getElem?_getD,List.getElem?_eq_getElem h];rfl
theorem drop_eq_cons (l:List Int) (i:Nat) (h:i<l.length):l.drop i=l[i] :: l.drop (i+1):=List.drop_eq_getElem_cons h
theorem l1In_eq (a b c:Int):spec_l1In.f a b c=some (decide (b≤a∧a≤c)):=by
 unfold spec_l1In.f
 by_cases h:a≥b
 ·rw [if_pos h];congr 1;by_cases h2:a≤c<;>simp [h2]<;>omega
 ·rw [if_neg h];congr 1;simp;omega
theorem InRange_eq (a b c:Int):impl_InRange.f a b c=some (decide (b≤a∧a≤c)):=by
 unfold impl_InRange.f
 by_cases h:b≤a
 ·rw [if_pos h];congr 1;by_cases h2:a≤c<;>simp [h2]<;>omega
 ·rw [if_neg h];congr 1;simp;omega
theorem rdL_nat (l:List (List Int)) (i:Nat) (h:i<l.length):rd_L1 l (i:Int)=l[i]:=by
 unfold rd_L1
 rw [Int.toNat_natCast,List.getD_eq_getElem?_getD,List.getElem?_eq_getElem h];rfl
theorem drop_consL (l:List (List Int)) (i:Nat) (h:i<l.length):l.drop i=l[i] :: l.drop (i+1):=List.drop_eq_getElem_cons h
def rowOk (c:Int) (r:List Int):Bool:=decide ((r.length:Int)=c) && r.all fun x=>decide (-2≤x∧x≤2)
def isMat (l:List (List Int)) (c:Int):Bool:=decide (1≤c∧c≤6) && decide (l.length≤12) && l.all (rowOk c)
theorem allIn_l0 (l:List Int) (hl:l.length≤16777216) (a b:Int) (d:Nat):∀(i:Nat),l.length-i=d→Ev (fun k=>impl_allIn.l0 k a b l (l.length:Int) (i:Int)) ((l.drop i).all fun x=>decide (a≤x∧x≤b)):=by
 induction d with
|zero=>
  intro i hd
  rw [List.drop_eq_nil_of_le (by omega)]
  refine Ev.step (f:=fun _=>some true) (fun k=>?_) (Ev.now true)
  simp only [impl_allIn.l0]
  rw [if_neg (by omega)]
|succ d ih=>
  intro i hd
  have h:i<l.length:=by omega
  rw [drop_eq_cons l i h,List.all_cons]
  by_cases c:a≤l[i]∧l[i]≤b
  ·rw [decide_eq_true c,Bool.true_and]
   refine Ev.step (f:=fun k=>impl_allIn.l0 k a b l (l.length:Int) ((i+1:Nat):Int)) (fun k=>?_) (ih (i+1) (by omega))
   simp only [impl_allIn.l0]
   rw [if_pos (by omega),if_pos (by omega),if_pos (by omega),rd_nat l i h,InRange_eq,decide_eq_true c]
   simp only [Option.bind_some,if_true]
   rw [wrap_id (by omega) (by omega)]
   rfl
  ·rw [decide_eq_false c,Bool.false_and]
   refine Ev.step (f:=fun _=>some false) (fun k=>?_) (Ev.now false)
   simp only [impl_allIn.l0]
   rw [if_pos (by omega),if_pos (by omega),if_pos (by omega),rd_nat l i h,InRange_eq,decide_eq_false c]
   simp only [Option.bind_some,Bool.false_eq_true,if_false]
theorem allIn_ev (l:List Int) (hl:l.length≤16777216) (a b:Int):Ev (fun k=>impl_allIn.f k l a b) (l.all fun x=>decide (a≤x∧x≤b)):=by
 have:=allIn_l0 l hl a b l.length 0 (by omega)
 exact this
theorem implMat_l0 (l:List (List Int)) (hl:l.length≤16777216) (hm:∀r∈l,r.length≤16777216) (c:Int) (d:Nat):∀(i:Nat),l.length-i=d→Ev (fun k=>impl_IsMatrix.l0 k c l (l.length:Int) (i:Int)) ((l.drop i).all (rowOk c)):=by
 induction d with
|zero=>
  intro i hd
  rw [List.drop_eq_nil_of_le (by omega)]
  refine Ev.step (f:=fun _=>some true) (fun k=>?_) (Ev.now true)
  simp only [impl_IsMatrix.l0]
  rw [if_neg (by omega)]
|succ d ih=>
  intro i hd
  have h:i<l.length:=by omega
  rw [drop_consL l i h,List.all_cons]
  by_cases c1:(l[i].length:Int)=c
  ·have e:rowOk c l[i]=l[i].all fun x=>decide (-2≤x∧x≤2):=by unfold rowOk;rw [decide_eq_true c1,Bool.true_and]
   rw [e]
   refine Ev.step (f:=fun k=>(impl_allIn.f k l[i] (-2) 2).bind fun t=>if t=true then impl_IsMatrix.l0 k c l (l.length:Int) ((i+1:Nat):Int) else some false) (fun k=>?_) (Ev.bind (allIn_ev l[i] (hm _ (List.getElem_mem h)) (-2) 2) ?_)
   ·simp only [impl_IsMatrix.l0]
    rw [if_pos (by omega),if_pos (by omega),if_pos (by omega),rdL_nat l i h,if_pos c1,wrap_id (by omega) (by omega)]
    rfl
   ·cases l[i].all fun x=>decide (-2≤x∧x≤2) with
   |true=>simp only [if_true,Bool.true_and];exact ih (i+1) (by omega)
   |false=>simp only [Bool.false_eq_true,if_false,Bool.false_and];exact Ev.now _
  ·have e:rowOk c l[i]=false:=by unfold rowOk;rw [decide_eq_false c1,Bool.false_and]
   rw [e,Bool.false_and]
   refine Ev.step (f:=fun _=>some false) (fun k=>?_) (Ev.now false)
   simp only [impl_IsMatrix.l0]
   rw [if_pos (by omega),if_pos (by omega),if_pos (by omega),rdL_nat l i h,if_neg c1]
theorem implMat_ev (l:List (List Int)) (hl:l.length≤16777216) (hm:∀r∈l,r.length≤16777216) (c:Int):Ev (fun k=>impl_IsMatrix.f k l c) (isMat l c):=by
 unfold impl_IsMatrix.f isMat
 simp only [InRange_eq,Option.bind_some]
 by_cases c1:1≤c∧c≤6
 ·simp only [decide_eq_true c1,if_true,Bool.true_and]
  by_cases c2:l.length≤12
  ·rw [decide_eq_true c2,Bool.true_and,decide_eq_false (show ¬((l.length:Int) > 12) by omega)]
   refine Ev.step (fun k=>impl_IsMatrix.j0.eq_2 _ _ _ _) ?_
   simp only [Bool.false_eq_true,if_false]
   exact implMat_l0 l hl hm c l.length 0 (by omega)
  ·rw [decide_eq_false c2,Bool.false_and,decide_eq_true (show (l.length:Int) > 12 by omega)]
   refine Ev.step (fun k=>impl_IsMatrix.j0.eq_2 _ _ _ _) ?_
   simp only [if_true]
   exact Ev.now _
 ·simp only [decide_eq_false c1,Bool.false_eq_true,if_false,Bool.false_and]
  refine Ev.step (fun k=>impl_IsMatrix.j0.eq_2 _ _ _ _) ?_
  simp only [if_true]
  exact Ev.now _
theorem specMat_l1 (l:List (List Int)) (hl:l.length≤16777216) (c:Int) (i:Nat) (h:i<l.length) (hc:(l[i].length:Int)=c) (hr:l[i].length≤16777216) (R:Bool) (hR:Ev (fun k=>spec_IsMatrix.l0 k l c ((i+1:Nat):Int)) R) (d:Nat):∀j:Nat,l[i].length-j=d→Ev (fun k=>spec_IsMatrix.l1 k l c (i:Int) (j:Int)) (((l[i].drop j).all fun x=>decide (-2≤x∧x≤2)) && R):=by
 induction d with
|zero=>
  intro j hd
  rw [List.drop_eq_nil_of_le (by omega)]
  refine Ev.step (f:=fun k=>spec_IsMatrix.l0 k l c ((i+1:Nat):Int)) (fun k=>?_) (by simpa using hR)
  simp only [spec_IsMatrix.l1]
  rw [if_neg (by omega),wrap_id (by omega) (by omega)]
  rfl
|succ d ih=>
  intro j hd
  have hj:j<l[i].length:=by omega
  rw [drop_eq_cons l[i] j hj,List.all_cons]
  by_cases c1:-2≤l[i][j]∧l[i][j]≤2
  ·rw [decide_eq_true c1,Bool.true_and]
   refine Ev.step (f:=fun k=>spec_IsMatrix.l1 k l c (i:Int) ((j+1:Nat):Int)) (fun k=>?_) (ih (j+1) (by omega))
   simp only [spec_IsMatrix.l1]
   rw [if_pos (by omega),if_pos (by omega),if_pos (by omega),if_pos (by omega),rdL_nat l i h,if_pos (by omega),rd_nat _ j hj,l1In_eq,decide_eq_true c1]
   simp only [Option.bind_some,if_true]
   rw [wrap_id (by omega) (by omega)]
   rfl
  ·rw [decide_eq_false c1,Bool.false_and,Bool.false_and]
   refine Ev.step (f:=fun _=>some false) (fun k=>?_) (Ev.now false)
   simp only [spec_IsMatrix.l1]
   rw [if_pos (by omega),if_pos (by omega),if_pos (by omega),if_pos (by omega),rdL_nat l i h,if_pos (by omega),rd_nat _ j hj,l1In_eq,decide_eq_false c1]
   simp only [Option.bind_some,Bool.false_eq_true,if_false]
theorem specMat_l0 (l:List (List Int)) (hl:l.length≤16777216) (hm:∀r∈l,r.length≤16777216) (c:Int) (d:Nat):∀(i:Nat),l.length-i=d→Ev (fun k=>spec_IsMatrix.l0 k l c (i:Int)) ((l.drop i).all (rowOk c)):=by
 induction d with
|zero=>
  intro i hd
  rw [List.drop_eq_nil_of_le (by omega)]
  refine Ev.step (f:=fun _=>some true) (fun k=>?_) (Ev.now true)
  simp only [spec_IsMatrix.l0]
  rw [if_neg (by omega)]
|succ d ih=>
  intro i hd
  have h:i<l.length:=by omega
  rw [drop_consL l i h,List.all_cons]
  by_cases c1:(l[i].length:Int)=c
  ·have e:rowOk c l[i]=l[i].all fun x=>decide (-2≤x∧x≤2):=by unfold rowOk;rw [decide_eq_true c1,Bool.true_and]
   rw [e]
   refine Ev.step (f:=fun k=>spec_IsMatrix.l1 k l c (i:Int) ((0:Nat):Int)) (fun k=>?_) (specMat_l1 l hl c i h c1 (hm _ (List.getElem_mem h)) _ (ih (i+1) (by omega)) l[i].length 0 (by omega))
   simp only [spec_IsMatrix.l0]
   rw [if_pos (by omega),if_pos (by omega),rdL_nat l i h,if_pos c1]
   rfl
  ·have e:rowOk c l[i]=false:=by unfold rowOk;rw [decide_eq_false c1,Bool.false_and]
   rw [e,Bool.false_and]
   refine Ev.step (f:=fun _=>some false) (fun k=>?_) (Ev.now false)
   simp only [spec_IsMatrix.l0]
   rw [if_pos (by omega),if_pos (by omega),rdL_nat l i h,if_neg c1]
theorem specMat_ev (l:List (List Int)) (hl:l.length≤16777216) (hm:∀r∈l,r.length≤16777216) (c:Int):Ev (fun k=>spec_IsMatrix.f k l c) (isMat l c):=by
 unfold spec_IsMatrix.f isMat
 simp only [l1In_eq,Option.bind_some]
 by_cases c1:1≤c∧c≤6
 ·simp only [decide_eq_true c1,if_true,Bool.true_and]
  by_cases c2:l.length≤12
  ·rw [decide_eq_true c2,Bool.true_and,decide_eq_false (show ¬((l.length:Int) > 12) by omega)]
   refine Ev.step (fun k=>spec_IsMatrix.j0.eq_2 _ _ _ _) ?_
   simp only [Bool.false_eq_true,if_false]
   exact specMat_l0 l hl hm c l.length 0 (by omega)
  ·rw [decide_eq_false c2,Bool.false_and,decide_eq_true (show (l.length:Int) > 12 by omega)]
   refine Ev.step (fun k=>spec_IsMatrix.j0.eq_2 _ _ _ _) ?_
   simp only [if_true]
   exact Ev.now _
 ·simp only [decide_eq_false c1,Bool.false_eq_true,if_false,Bool.false_and]
  refine Ev.step (fun k=>spec_IsMatrix.j0.eq_2 _ _ _ _) ?_
  simp only [if_true]
  exact Ev.now _
def isSys (l:List (List Int)) (v:List Int) (c:Int):Bool:=isMat l c && decide (v.length=l.length) && v.all fun x=>decide (-1000≤x∧x≤1000)
theorem implSys_ev (l:List (List Int)) (v:List Int) (hl:l.length≤16777216) (hm:∀r∈l,r.length≤16777216) (hv:v.length≤16777216) (c:Int):Ev (fun k=>impl_IsSystem.f k l v c) (isSys l v c):=by
 unfold impl_IsSystem.f isSys
 refine Ev.bind (implMat_ev l hl hm c) ?_
 cases isMat l c with
|false=>simp only [Bool.false_eq_true,if_false,Bool.false_and];exact Ev.now _
|true=>
  simp only [if_true,Bool.true_and]
  by_cases c1:v.length=l.length
  ·simp only [if_pos (show (v.length:Int)=(l.length:Int) by omega),decide_eq_true c1,Bool.true_and]
   exact Ev.bind (allIn_ev v hv (-1000) 1000) (Ev.now _)
  ·simp only [if_neg (show ¬((v.length:Int)=(l.length:Int)) by omega),decide_eq_false c1,Bool.false_and]
   exact Ev.now _
theorem specSys_l0 (l:List (List Int)) (v:List Int) (hl:l.length≤16777216) (hm:∀r∈l,r.length≤16777216) (hv:v.length≤16777216) (c:Int) (d:Nat):∀(i:Nat),v.length-i=d→Ev (fun k=>spec_IsSystem.l0 k l v c (i:Int)) (((v.drop i).all fun x=>decide (-1000≤x∧x≤1000)) && (isMat l c && decide (v.length=l.length))):=by
 induction d with
|zero=>
  intro i hd
  rw [List.drop_eq_nil_of_le (by omega),List.all_nil,Bool.true_and]
  refine Ev.step (f:=fun k=>(spec_IsMatrix.f k l c).bind fun t=>if t=true then some ((v.length:Int) == (l.length:Int)) else some false) (fun k=>?_) (Ev.bind (specMat_ev l hl hm c) ?_)
  ·simp only [spec_IsSystem.l0]
   rw [if_neg (by omega)]
  ·cases isMat l c with
  |false=>simp only [Bool.false_eq_true,if_false,Bool.false_and];exact Ev.now _
  |true=>
    simp only [if_true,Bool.true_and]
    have e:((v.length:Int) == (l.length:Int))=decide (v.length=l.length):=by
     rw [Bool.eq_iff_iff,beq_iff_eq,decide_eq_true_iff]
     omega
    rw [e]
    exact Ev.now _
|succ d ih=>
  intro i hd
  have h:i<v.length:=by omega
  rw [drop_eq_cons v i h,List.all_cons]
  by_cases c1:-1000≤v[i]∧v[i]≤1000
  ·rw [decide_eq_true c1,Bool.true_and]
   refine Ev.step (f:=fun k=>spec_IsSystem.l0 k l v c ((i+1:Nat):Int)) (fun k=>?_) (ih (i+1) (by omega))
   simp only [spec_IsSystem.l0]
   rw [if_pos (by omega),if_pos (by omega),rd_nat v i h,l1In_eq,decide_eq_true c1]
   simp only [Option.bind_some,if_true]
   rw [wrap_id (by omega) (by omega)]
   rfl
  ·rw [decide_eq_false c1,Bool.false_and,Bool.false_and]
   refine Ev.step (f:=fun _=>some false) (fun k=>?_) (Ev.now false)
   simp only [spec_IsSystem.l0]
   rw [if_pos (by omega),if_pos (by omega),rd_nat v i h,l1In_eq,decide_eq_false c1]
   simp only [Option.bind_some,Bool.false_eq_true,if_false]
theorem specSys_ev (l:List (List Int)) (v:List Int) (hl:l.length≤16777216) (hm:∀r∈l,r.length≤16777216) (hv:v.length≤16777216) (c:Int):Ev (fun k=>spec_IsSystem.f k l v c) (isSys l v c):=by
 have:=specSys_l0 l v hl hm hv c v.length 0 (by omega)
 rw [Bool.and_comm] at this
 exact this
theorem impl_gcd_l0 (b:Nat):∀a:Nat,Ev (fun k=>impl_gcd.l0 k (a:Int) (b:Int)) ((Nat.gcd a b:Nat):Int):=by
 induction b using Nat.strongRecOn with
|ind b ih=>
  intro a
  by_cases h:b=0
  ·subst h
   refine Ev.step (f:=fun _=>some (a:Int)) (fun k=>?_) (by simpa using Ev.now (a:Int))
   simp only [impl_gcd.l0]
   rw [if_pos (by omega)]
  ·have hg:Nat.gcd a b=Nat.gcd b (a % b):=by rw [Nat.gcd_comm a b,Nat.gcd_rec b a,Nat.gcd_comm]
   rw [hg]
   refine Ev.step (f:=fun k=>impl_gcd.l0 k (b:Int) ((a % b:Nat):Int)) (fun k=>?_) (ih (a % b) (Nat.mod_lt _ (by omega)) b)
   simp only [impl_gcd.l0]
   rw [if_neg (by omega),Int.tmod_eq_emod_of_nonneg (by omega)]
   rfl
theorem spec_l4Gcd_l0 (b:Nat):∀a:Nat,Ev (fun k=>spec_l4Gcd.l0 k (a:Int) (b:Int)) ((Nat.gcd a b:Nat):Int):=by
 induction b using Nat.strongRecOn with
|ind b ih=>
  intro a
  by_cases h:b=0
  ·subst h
   refine Ev.step (f:=fun _=>some (a:Int)) (fun k=>?_) (by simpa using Ev.now (a:Int))
   simp only [spec_l4Gcd.l0]
   rw [if_neg (by omega)]
  ·have hg:Nat.gcd a b=Nat.gcd b (a % b):=by rw [Nat.gcd_comm a b,Nat.gcd_rec b a,Nat.gcd_comm]
   rw [hg]
   refine Ev.step (f:=fun k=>spec_l4Gcd.l0 k (b:Int) ((a % b:Nat):Int)) (fun k=>?_) (ih (a % b) (Nat.mod_lt _ (by omega)) b)
   simp only [spec_l4Gcd.l0]
   rw [if_pos (by omega),if_neg (by omega),Int.tmod_eq_emod_of_nonneg (by omega)]
   rfl
theorem gcdI_ev (a b:Int) (ha:-9223372036854775808<a) (ha':a<9223372036854775808) (hb:-9223372036854775808<b) (hb':b<9223372036854775808):Ev (fun k=>impl_gcd.f k a b) ((Int.gcd a b:Nat):Int):=by
 have h0:Ev (fun k=>impl_gcd.j0 k ((a.natAbs:Nat):Int) b) ((Int.gcd a b:Nat):Int):=by
  refine Ev.step (f:=fun k=>impl_gcd.j1 k ((a.natAbs:Nat):Int) ((b.natAbs:Nat):Int)) (fun k=>?_) (Ev.step (fun k=>impl_gcd.j1.eq_2 _ _ _) (impl_gcd_l0 b.natAbs a.natAbs))
  simp only [impl_gcd.j0]
  by_cases h:b<0
  ·rw [if_pos h,wrap_id (by omega) (by omega),show -b=((b.natAbs:Nat):Int) by omega]
  ·rw [if_neg h,show (b.natAbs:Int)=b by omega]
 unfold impl_gcd.f
 by_cases h:a<0
 ·simp only [if_pos h]
  rw [wrap_id (by omega) (by omega),show -a=((a.natAbs:Nat):Int) by omega]
  exact h0
 ·simp only [if_neg h]
  rw [show (a.natAbs:Int)=a by omega] at h0
  exact h0
theorem absS (a:Int) (ha:-9223372036854775808<a) (ha':a<9223372036854775808):spec_Max.f a (wrap64 (-a))=some ((a.natAbs:Nat):Int):=by
 unfold spec_Max.f
 rw [wrap_id (by omega) (by omega)]
 by_cases h:-a > a
 ·rw [if_pos h];congr 1;omega
 ·rw [if_neg h];congr 1;omega
theorem gcdS_ev (a b:Int) (ha:-9223372036854775808<a) (ha':a<9223372036854775808) (hb:-9223372036854775808<b) (hb':b<9223372036854775808):Ev (fun k=>spec_l4Gcd.f k a b) ((Int.gcd a b:Nat):Int):=by
 unfold spec_l4Gcd.f
 simp only [absS a ha ha',absS b hb hb',Option.bind_some]
 exact spec_l4Gcd_l0 b.natAbs a.natAbs
def isR (n d:Int):Bool:=decide ((-1000000000≤n∧n≤1000000000)∧(1≤d∧d≤1000000000)∧((Int.gcd n d:Nat):Int)=1)
theorem isRI_ev (n d:Int):Ev (fun k=>impl_IsRatio.f k n d) (isR n d):=by
 unfold impl_IsRatio.f isR
 simp only [InRange_eq,Option.bind_some]
 by_cases c1:-1000000000≤n∧n≤1000000000
 ·by_cases c2:1≤d∧d≤1000000000
  ·simp only [decide_eq_true c1,decide_eq_true c2,if_true]
   refine Ev.bind (gcdI_ev n d (by omega) (by omega) (by omega) (by omega)) ?_
   have e:(((Int.gcd n d:Nat):Int) == 1)=decide ((-1000000000≤n∧n≤1000000000)∧(1≤d∧d≤1000000000)∧((Int.gcd n d:Nat):Int)=1):=by
    rw [Bool.eq_iff_iff,beq_iff_eq,decide_eq_true_iff]
    exact ⟨fun h=>⟨c1,c2,h⟩,fun h=>h.2.2⟩
   rw [e]
   exact Ev.now _
  ·simp only [decide_eq_true c1,decide_eq_false c2,if_true,Bool.false_eq_true,if_false]
   rw [decide_eq_false fun h=>c2 h.2.1]
   exact Ev.now _
 ·simp only [decide_eq_false c1,Bool.false_eq_true,if_false]
  rw [decide_eq_false fun h=>c1 h.1]
  exact Ev.now _
theorem isRS_ev (n d:Int):Ev (fun k=>spec_IsRatio.f k n d) (isR n d):=by
 unfold spec_IsRatio.f isR
 simp only [l1In_eq,Option.bind_some]
 by_cases c1:-1000000000≤n∧n≤1000000000
 ·by_cases c2:1≤d∧d≤1000000000
  ·simp only [decide_eq_true c1,decide_eq_true c2,if_true]
   refine Ev.bind (gcdS_ev n d (by omega) (by omega) (by omega) (by omega)) ?_
   have e:(((Int.gcd n d:Nat):Int) == 1)=decide ((-1000000000≤n∧n≤1000000000)∧(1≤d∧d≤1000000000)∧((Int.gcd n d:Nat):Int)=1):=by
    rw [Bool.eq_iff_iff,beq_iff_eq,decide_eq_true_iff]
    exact ⟨fun h=>⟨c1,c2,h⟩,fun h=>h.2.2⟩
   rw [e]
   exact Ev.now _
  ·simp only [decide_eq_true c1,decide_eq_false c2,if_true,Bool.false_eq_true,if_false]
   rw [decide_eq_false fun h=>c2 h.2.1]
   exact Ev.now _
 ·simp only [decide_eq_false c1,Bool.false_eq_true,if_false]
  rw [decide_eq_false fun h=>c1 h.1]
  exact Ev.now _
theorem isR_iff (n d:Int):isR n d=true↔(-1000000000≤n∧n≤1000000000)∧(1≤d∧d≤1000000000)∧((Int.gcd n d:Nat):Int)=1:=by
 unfold isR
 rw [decide_eq_true_iff]
theorem ev_to {α:Type} {f:Nat→Option α} {a b:α} (h:Ev f a) (e:a=b):Ev f b:=e ▸ h
theorem at0_rd (l:List Int) (i:Nat):rd l (i:Int)=at0 l i:=by
 unfold rd at0
 rw [Int.toNat_natCast]
theorem idx96_l0 (l:List Int) (hl:l.length≤16777216) (d:Nat):∀i:Nat,l.length-i=d→i≤ld l→Ev (fun k=>slices_IndexFunc_int_int_96.l0 k l (l.length:Int) (i:Int)) (if ld l<l.length then (ld l:Int) else -1):=by
 induction d with
|zero=>
  intro i hd hi
  have:=ld_le l
  rw [if_neg (by omega)]
  refine Ev.step (f:=fun _=>some (-1)) (fun k=>?_) (Ev.now _)
  simp only [slices_IndexFunc_int_int_96.l0]
  rw [if_neg (by omega)]
|succ d ih=>
  intro i hd hi
  have h:i<l.length:=by omega
  by_cases e:at0 l i=0
  ·have hne:i≠ld l:=fun e2=>by
    subst e2
    exact ld_ne l h e
   refine Ev.step (f:=fun k=>slices_IndexFunc_int_int_96.l0 k l (l.length:Int) ((i+1:Nat):Int)) (fun k=>?_) (ih (i+1) (by omega) (by omega))
   simp only [slices_IndexFunc_int_int_96.l0]
   rw [if_pos (by omega),if_pos (by omega),if_pos (by omega),at0_rd,if_pos e,wrap_id (by omega) (by omega)]
   rfl
  ·have he:ld l=i:=ld_eq l i (fun j hj=>ld_low l j (by omega)) e
   rw [he,if_pos h]
   refine Ev.step (f:=fun _=>some (i:Int)) (fun k=>?_) (Ev.now _)
   simp only [slices_IndexFunc_int_int_96.l0]
   rw [if_pos (by omega),if_pos (by omega),if_pos (by omega),at0_rd,if_neg e]
theorem leadI_ev (l:List Int) (hl:l.length≤16777216):Ev (fun k=>impl_lead.f k l) (if ld l<l.length then (ld l:Int) else -1):=by
 unfold impl_lead.f
 refine Ev.bind (idx96_l0 l hl l.length 0 (by omega) (by omega)) (Ev.now _)
theorem leadS_l0 (l:List Int) (hl:l.length≤16777216) (d:Nat):∀i:Nat,l.length-i=d→i≤ld l→Ev (fun k=>spec_l5Lead.l0 k l (i:Int)) (ld l:Int):=by
 induction d with
|zero=>
  intro i hd hi
  have:=ld_le l
  rw [show ld l=l.length by omega]
  refine Ev.step (f:=fun _=>some (l.length:Int)) (fun k=>?_) (Ev.now _)
  simp only [spec_l5Lead.l0]
  rw [if_neg (by omega)]
|succ d ih=>
  intro i hd hi
  have h:i<l.length:=by omega
  by_cases e:at0 l i=0
  ·have hne:i≠ld l:=fun e2=>by
    subst e2
    exact ld_ne l h e
   refine Ev.step (f:=fun k=>spec_l5Lead.l0 k l ((i+1:Nat):Int)) (fun k=>?_) (ih (i+1) (by omega) (by omega))
   simp only [spec_l5Lead.l0]
   rw [if_pos (by omega),if_pos (by omega),at0_rd,if_pos e,wrap_id (by omega) (by omega)]
   rfl
  ·have he:ld l=i:=ld_eq l i (fun j hj=>ld_low l j (by omega)) e
   rw [he]
   refine Ev.step (f:=fun _=>some (i:Int)) (fun k=>?_) (Ev.now _)
   simp only [spec_l5Lead.l0]
   rw [if_pos (by omega),if_pos (by omega),at0_rd,if_neg e]
theorem leadS_ev (l:List Int) (hl:l.length≤16777216):Ev (fun k=>spec_l5Lead.f k l) (ld l:Int):=leadS_l0 l hl l.length 0 (by omega) (by omega)
theorem gcdl_lt (B:Nat) (hB:0<B):∀l:List Int,(∀x∈l,x.natAbs<B)→gcdl l<B
 | [],_=>by simpa [gcdl] using hB
 | x :: l,h=>by
  rw [gcdl_cons]
  by_cases hx:x.natAbs=0
  ·rw [hx,Nat.gcd_zero_left]
   exact gcdl_lt B hB l fun y hy=>h y (by simp [hy])
  ·have:=Nat.le_of_dvd (Nat.pos_of_ne_zero hx) (Nat.gcd_dvd_left x.natAbs (gcdl l))
   have:=h x (by simp)
   omega
theorem gcdl_take (l:List Int) (i:Nat) (h:i<l.length):gcdl (l.take (i+1))=Nat.gcd (gcdl (l.take i)) l[i].natAbs:=by
 rw [List.take_succ_eq_append_getElem h]
 show List.foldl _ _ _=_
 rw [List.foldl_append]
 rfl
theorem gcd_int (g:Nat) (x:Int):Int.gcd (g:Int) x=Nat.gcd g x.natAbs:=rfl
theorem mem_small {l:List Int} {B:Nat} (h:∀j,(at0 l j).natAbs<B):∀x∈l,x.natAbs<B:=fun x hx=>by
 obtain ⟨i,hi,rfl⟩:=List.getElem_of_mem hx
 have:=h i
 rwa [at0_lt hi] at this
def mixl {α:Type} (a b:List α) (i:Nat):List α:=b.take i ++ a.drop i
theorem mixl_zero {α:Type} (a b:List α):mixl a b 0=a:=by simp [mixl]
theorem mixl_all {α:Type} (a b:List α) (i:Nat) (h:a.length=b.length) (hi:a.length≤i):mixl a b i=b:=by
 unfold mixl
 rw [List.drop_eq_nil_of_le hi,List.append_nil,List.take_of_length_le (by omega)]
theorem mixl_len {α:Type} (a b:List α) (i:Nat) (h:a.length=b.length) (hi:i≤a.length):(mixl a b i).length=a.length:=by
 simp only [mixl,List.length_append,List.length_take,List.length_drop]
 omega
theorem mixl_get {α:Type} (a b:List α) (i j:Nat) (h:a.length=b.length):(mixl a b i)[j]?=if j<i then b[j]? else a[j]?:=by
 unfold mixl
 by_cases hj:j<i
 ·rw [if_pos hj]
  by_cases h2:j<b.length
  ·rw [List.getElem?_append_left (by rw [List.length_take];omega),List.getElem?_take,if_pos hj]
  ·rw [List.getElem?_append_right (by rw [List.length_take];omega),List.getElem?_eq_none (l:=b) (by omega),List.getElem?_eq_none]
   rw [List.length_drop,List.length_take]
   omega
 ·rw [if_neg hj]
  by_cases h2:j<b.length
  ·rw [List.getElem?_append_right (by rw [List.length_take];omega),List.length_take,List.getElem?_drop]
   congr 1
   omega
  ·rw [List.getElem?_append_right (by rw [List.length_take];omega),List.length_take,List.getElem?_drop,List.getElem?_eq_none (by omega),List.getElem?_eq_none (by omega)]
theorem mixl_set {α:Type} (a b:List α) (i:Nat) (x:α) (h:a.length=b.length) (hx:b[i]?=some x):(mixl a b i).set i x=mixl a b (i+1):=by
 have hi:=(List.getElem?_eq_some_iff.1 hx).1
 apply List.ext_getElem?
 intro j
 rw [List.getElem?_set,mixl_len a b i h (by omega),mixl_get a b (i+1) j h]
 by_cases e:i=j
 ·subst e
  rw [if_pos rfl,if_pos (by omega),if_pos (by omega),hx]
 ·rw [if_neg e,mixl_get a b i j h]
  by_cases hj:j<i
  ·rw [if_pos hj,if_pos (by omega)]
  ·rw [if_neg hj,if_neg (by omega)]
theorem mixl_same {α:Type} (a b:List α) (i:Nat) (h:a.length=b.length) (hx:b[i]?=a[i]?):mixl a b i=mixl a b (i+1):=by
 apply List.ext_getElem?
 intro j
 rw [mixl_get a b i j h,mixl_get a b (i+1) j h]
 by_cases hj:j<i
 ·rw [if_pos hj,if_pos (by omega)]
 ·by_cases e:j=i
  ·subst e
   rw [if_neg hj,if_pos (by omega),hx]
  ·rw [if_neg hj,if_neg (by omega)]
def part (l:List Int) (i:Nat):List Int:=mixl l (tid l) i
theorem part_zero (l:List Int):part l 0=l:=mixl_zero _ _
theorem part_all (l:List Int):part l l.length=tid l:=mixl_all _ _ _ (tid_len l).symm (Nat.le_refl _)
theorem part_len (l:List Int) (i:Nat) (h:i≤l.length):(part l i).length=l.length:=mixl_len _ _ _ (tid_len l).symm h
theorem mixl_at (a b:List Int) (i:Nat) (h:a.length=b.length):at0 (mixl a b i) i=at0 a i:=by
 unfold at0
 rw [List.getD_eq_getElem?_getD,List.getD_eq_getElem?_getD,mixl_get a b i i h,if_neg (by omega)]
theorem part_at (l:List Int) (i:Nat) (h:i<l.length):at0 (part l i) i=at0 l i:=mixl_at _ _ _ (tid_len l).symm
theorem part_succ (l:List Int) (i:Nat) (h:i<l.length) (x:Int) (hx:x=at0 (tid l) i):(part l i).set i x=part l (i+1):=by
 refine mixl_set _ _ _ _ (tid_len l).symm ?_
 have ht:=tid_len l
 rw [hx,at0_lt (by omega),List.getElem?_eq_getElem (by omega)]
theorem div_step (l:List Int) (hg:gcdl l≠0) (hs:∀j,(at0 l j).natAbs<9223372036854775808) (i:Nat):wrap64 (Int.tdiv (at0 l i) (sg l))=at0 (tid l) i:=by
 have h1:=tid_mul l hg i
 have h2:Int.tdiv (at0 l i) (sg l)=at0 (tid l) i:=by
  rw [← h1]
  exact Int.mul_tdiv_cancel_left _ (sg_ne l hg)
 rw [h2]
 have h3:=hs i
 have h5:(at0 (tid l) i).natAbs≤(at0 l i).natAbs:=by
  rw [← h1,Int.natAbs_mul]
  exact Nat.le_mul_of_pos_left _ (Int.natAbs_pos.2 (sg_ne l hg))
 exact wrap_id (by omega) (by omega)
theorem tidyI_l1 (l:List Int) (hl:l.length≤16777216) (hg:gcdl l≠0) (hs:∀j,(at0 l j).natAbs<9223372036854775808) (d:Nat):∀i:Nat,l.length-i=d→i≤l.length→Ev (fun k=>impl_tidy.l1 k (part l i) (sg l) (l.length:Int) (i:Int)) (tid l):=by
 induction d with
|zero=>
  intro i hd hi
  refine Ev.step (f:=fun _=>some (part l i)) (fun k=>?_) (ev_to (Ev.now (part l i)) (by rw [show i=l.length by omega,part_all]))
  simp only [impl_tidy.l1]
  rw [if_neg (by omega)]
|succ d ih=>
  intro i hd hi
  have h:i<l.length:=by omega
  have hp:=part_len l i (by omega)
  refine Ev.step (f:=fun k=>impl_tidy.l1 k (part l (i+1)) (sg l) (l.length:Int) ((i+1:Nat):Int)) (fun k=>?_) (ih (i+1) (by omega) (by omega))
  simp only [impl_tidy.l1]
  rw [if_pos (by omega),if_pos (by omega),if_pos (by omega),if_neg (sg_ne l hg),at0_rd,part_at l i h,div_step l hg hs i,Int.toNat_natCast,part_succ l i h _ rfl,wrap_id (by omega) (by omega)]
  rfl
theorem tidyS_l1 (l:List Int) (hl:l.length≤16777216) (hg:gcdl l≠0) (hs:∀j,(at0 l j).natAbs<9223372036854775808) (d:Nat):∀i:Nat,l.length-i=d→i≤l.length→Ev (fun k=>spec_l5Tidy.l1 k (sg l) (part l i) (i:Int)) (tid l):=by
 induction d with
|zero=>
  intro i hd hi
  have hp:=part_len l i (by omega)
  refine Ev.step (f:=fun _=>some (part l i)) (fun k=>?_) (ev_to (Ev.now (part l i)) (by rw [show i=l.length by omega,part_all]))
  simp only [spec_l5Tidy.l1]
  rw [if_neg (by omega)]
|succ d ih=>
  intro i hd hi
  have h:i<l.length:=by omega
  have hp:=part_len l i (by omega)
  refine Ev.step (f:=fun k=>spec_l5Tidy.l1 k (sg l) (part l (i+1)) ((i+1:Nat):Int)) (fun k=>?_) (ih (i+1) (by omega) (by omega))
  simp only [spec_l5Tidy.l1]
  rw [if_pos (by omega),if_pos (by omega),if_neg (sg_ne l hg),at0_rd,part_at l i h,div_step l hg hs i,Int.toNat_natCast,part_succ l i h _ rfl,wrap_id (by omega) (by omega)]
  rfl
theorem sg_case (l:List Int):sg l=if at0 l (ld l)<0 then -(gcdl l:Int) else gcdl l:=rfl
theorem tidyI_l0 (l:List Int) (hl:l.length≤16777216) (hs:∀j,(at0 l j).natAbs<9223372036854775808) (d:Nat):∀i:Nat,l.length-i=d→i≤l.length→Ev (fun k=>impl_tidy.l0 k l ((gcdl (l.take i):Nat):Int) l (l.length:Int) (i:Int)) (tid l):=by
 have hm:=mem_small hs
 induction d with
|zero=>
  intro i hd hi
  rw [List.take_of_length_le (by omega)]
  have hgl:=gcdl_lt _ (by decide) l hm
  by_cases hg:gcdl l=0
  ·refine Ev.step (f:=fun _=>some l) (fun k=>?_) (ev_to (Ev.now l) (by unfold tid;rw [if_pos hg]))
   simp only [impl_tidy.l0]
   rw [if_neg (by omega),if_pos (by omega)]
  ·have hld:=ld_lt l hg
   have hlead:=leadI_ev l hl
   rw [if_pos hld] at hlead
   have hl1:=tidyI_l1 l hl hg hs l.length 0 (by omega) (by omega)
   rw [part_zero] at hl1
   have hj:Ev (fun k=>impl_tidy.j1 k l (sg l)) (tid l):=Ev.step (fun k=>impl_tidy.j1.eq_2 _ _ _) hl1
   refine Ev.step (f:=fun k=>(impl_lead.f k l).bind fun t=>if 0≤t then (if t<(l.length:Int) then (if rd l t<0 then impl_tidy.j1 k l (wrap64 (-((gcdl l:Nat):Int))) else impl_tidy.j1 k l ((gcdl l:Nat):Int)) else none) else none) (fun k=>?_) ?_
   ·simp only [impl_tidy.l0]
    rw [if_neg (by omega),if_neg (by omega)]
   ·refine Ev.bind hlead ?_
    simp only [if_pos (show (0:Int)≤(ld l:Int) by omega),if_pos (show (ld l:Int)<(l.length:Int) by omega),at0_rd]
    have hc:=sg_case l
    by_cases hn:at0 l (ld l)<0
    ·simp only [if_pos hn] at hc ⊢
     rw [wrap_id (by omega) (by omega),← hc]
     exact hj
    ·simp only [if_neg hn] at hc ⊢
     rw [← hc]
     exact hj
|succ d ih=>
  intro i hd hi
  have h:i<l.length:=by omega
  have hgl:=gcdl_lt 9223372036854775808 (by decide) (l.take i) fun x hx=>hm x (List.mem_of_mem_take hx)
  have hsi:=hs i
  have hgc:=gcdI_ev ((gcdl (l.take i):Nat):Int) (at0 l i) (by omega) (by omega) (by omega) (by omega)
  rw [gcd_int,at0_lt h,← gcdl_take l i h] at hgc
  refine Ev.step (f:=fun k=>(impl_gcd.f k ((gcdl (l.take i):Nat):Int) l[i]).bind fun t=>impl_tidy.l0 k l t l (l.length:Int) ((i+1:Nat):Int)) (fun k=>?_) (Ev.bind hgc (ih (i+1) (by omega) (by omega)))
  simp only [impl_tidy.l0]
  rw [if_pos (by omega),if_pos (by omega),if_pos (by omega),at0_rd,at0_lt h,wrap_id (by omega) (by omega)]
  rfl
theorem tidyI_ev (l:List Int) (hl:l.length≤16777216) (hs:∀j,(at0 l j).natAbs<9223372036854775808):Ev (fun k=>impl_tidy.f k l) (tid l):=tidyI_l0 l hl hs l.length 0 (by omega) (by omega)
theorem tidyS_l0 (l:List Int) (hl:l.length≤16777216) (hs:∀j,(at0 l j).natAbs<9223372036854775808) (d:Nat):∀i:Nat,l.length-i=d→i≤l.length→Ev (fun k=>spec_l5Tidy.l0 k l ((gcdl (l.take i):Nat):Int) (i:Int)) (tid l):=by
 have hm:=mem_small hs
 induction d with
|zero=>
  intro i hd hi
  rw [List.take_of_length_le (by omega)]
  have hgl:=gcdl_lt _ (by decide) l hm
  have hlead:=leadS_ev l hl
  have hlle:=ld_le l
  refine Ev.step (f:=fun k=>(spec_l5Lead.f k l).bind fun t=>if t=(l.length:Int) then some l else if 0≤t then (if t<(l.length:Int) then (if rd l t<0 then spec_l5Tidy.j1 k (wrap64 (-((gcdl l:Nat):Int))) l else spec_l5Tidy.j1 k ((gcdl l:Nat):Int) l) else none) else none) (fun k=>?_) ?_
  ·simp only [spec_l5Tidy.l0]
   rw [if_neg (by omega)]
   simp only [Option.bind_some,List.nil_append,List.length_nil,Nat.zero_add]
   rw [if_pos (by omega)]
  ·refine Ev.bind hlead ?_
   by_cases hg:gcdl l=0
   ·have h0:=ld_zero l (gcdl_zero l hg)
    simp only [if_pos (show (ld l:Int)=(l.length:Int) by omega)]
    exact ev_to (Ev.now l) (by unfold tid;rw [if_pos hg])
   ·have hld:=ld_lt l hg
    have hl1:=tidyS_l1 l hl hg hs l.length 0 (by omega) (by omega)
    rw [part_zero] at hl1
    have hj:Ev (fun k=>spec_l5Tidy.j1 k (sg l) l) (tid l):=Ev.step (fun k=>spec_l5Tidy.j1.eq_2 _ _ _) hl1
    simp only [if_neg (show ¬(ld l:Int)=(l.length:Int) by omega),if_pos (show (0:Int)≤(ld l:Int) by omega),if_pos (show (ld l:Int)<(l.length:Int) by omega),at0_rd]
    have hc:=sg_case l
    by_cases hn:at0 l (ld l)<0
    ·simp only [if_pos hn] at hc ⊢
     rw [wrap_id (by omega) (by omega),← hc]
     exact hj
    ·simp only [if_neg hn] at hc ⊢
     rw [← hc]
     exact hj
|succ d ih=>
  intro i hd hi
  have h:i<l.length:=by omega
  have hgl:=gcdl_lt 9223372036854775808 (by decide) (l.take i) fun x hx=>hm x (List.mem_of_mem_take hx)
  have hsi:=hs i
  have hgc:=gcdS_ev ((gcdl (l.take i):Nat):Int) (at0 l i) (by omega) (by omega) (by omega) (by omega)
  rw [gcd_int,at0_lt h,← gcdl_take l i h] at hgc
  refine Ev.step (f:=fun k=>(spec_l4Gcd.f k ((gcdl (l.take i):Nat):Int) l[i]).bind fun t=>spec_l5Tidy.l0 k l t ((i+1:Nat):Int)) (fun k=>?_) (Ev.bind hgc (ih (i+1) (by omega) (by omega)))
  simp only [spec_l5Tidy.l0]
  rw [if_pos (by omega),if_pos (by omega),at0_rd,at0_lt h,wrap_id (by omega) (by omega)]
  rfl
theorem tidyS_ev (l:List Int) (hl:l.length≤16777216) (hs:∀j,(at0 l j).natAbs<9223372036854775808):Ev (fun k=>spec_l5Tidy.f k l) (tid l):=tidyS_l0 l hl hs l.length 0 (by omega) (by omega)
theorem mapO_ev (f:Nat→List Int→Option (List Int)) (g:List Int→List Int):∀l:List (List Int),(∀x∈l,Ev (fun k=>f k x) (g x))→Ev (fun k=>impl_reduceAny.mapO (f k) l) (l.map g)
|[],_=>Ev.now []
|x :: l,h=>by
  refine Ev.congr (f:=fun k=>(f k x).bind fun y=>(impl_reduceAny.mapO (f k) l).bind fun m=>some (y :: m)) (fun k=>rfl) ?_
  exact Ev.bind (h x (by simp)) (Ev.bind (mapO_ev f g l fun y hy=>h y (by simp [hy])) (Ev.now _))
def Small (l:List Int):Prop:=∀j,(at0 l j).natAbs≤322560000
theorem mul_small {a b:Int} (ha:a.natAbs≤322560000) (hb:b.natAbs≤322560000):(a*b).natAbs≤104044953600000000:=by
 rw [Int.natAbs_mul]
 exact Nat.mul_le_mul ha hb
theorem comb_step (x p:List Int) (c i:Nat) (h:x.length=p.length) (hx:Small x) (hp:Small p):wrap64 (wrap64 (at0 x i*at0 p c)-wrap64 (at0 p i*at0 x c))=at0 (comb x p c) i:=by
 have h1:=mul_small (hx i) (hp c)
 have h2:=mul_small (hp i) (hx c)
 rw [wrap_id (x:=at0 x i*at0 p c) (by omega) (by omega),wrap_id (x:=at0 p i*at0 x c) (by omega) (by omega),wrap_id (by omega) (by omega),comb_at x p c h]
theorem comb_small (x p:List Int) (c:Nat) (h:x.length=p.length) (hx:Small x) (hp:Small p) (j:Nat):(at0 (comb x p c) j).natAbs<9223372036854775808:=by
 have h1:=mul_small (hx j) (hp c)
 have h2:=mul_small (hp j) (hx c)
 rw [comb_at x p c h]
 omega
theorem rowI_l0 (x p:List Int) (c:Nat) (h:x.length=p.length) (hl:x.length≤16777216) (hc:c<x.length) (hx:Small x) (hp:Small p) (d:Nat):∀i:Nat,x.length-i=d→i≤x.length→Ev (fun k=>impl_reduceAny.l0 k (c:Int) p (mixl x (comb x p c) i) (at0 x c) (x.length:Int) (i:Int)) (tid (comb x p c)):=by
 have hcl:=(comb_len x p c h).symm
 induction d with
|zero=>
  intro i hd hi
  rw [mixl_all _ _ _ hcl (by omega)]
  refine Ev.step (f:=fun k=>(impl_tidy.f k (comb x p c)).bind fun t=>some t) (fun k=>?_) (Ev.bind (tidyI_ev _ (by omega) (comb_small x p c h hx hp)) (Ev.now _))
  simp only [impl_reduceAny.l0]
  rw [if_neg (by omega)]
|succ d ih=>
  intro i hd hi
  have hi2:i<x.length:=by omega
  have hm:=mixl_len _ _ i hcl (by omega)
  refine Ev.step (f:=fun k=>impl_reduceAny.l0 k (c:Int) p (mixl x (comb x p c) (i+1)) (at0 x c) (x.length:Int) ((i+1:Nat):Int)) (fun k=>?_) (ih (i+1) (by omega) (by omega))
  simp only [impl_reduceAny.l0]
  rw [if_pos (by omega),if_pos (by omega),if_pos (by omega),if_pos (by omega),if_pos (by omega),if_pos (by omega),at0_rd,at0_rd,at0_rd,mixl_at _ _ _ hcl,comb_step x p c i h hx hp,Int.toNat_natCast,
   mixl_set _ _ _ _ hcl (by rw [at0_lt (by omega),List.getElem?_eq_getElem (by omega)]),wrap_id (by omega) (by omega)]
  rfl
theorem rowI_ev (x p:List Int) (c:Nat) (h:x.length=p.length) (hl:x.length≤16777216) (hc:c<x.length) (hx:Small x) (hp:Small p):Ev (fun k=>impl_reduceAny.row k (c:Int) p x) (clr c p x):=by
 unfold impl_reduceAny.row clr
 simp only [if_pos (show (0:Int)≤(c:Int) by omega),if_pos (show (c:Int)<(x.length:Int) by omega),at0_rd]
 by_cases e:at0 x c=0
 ·simp only [if_pos e]
  exact Ev.now x
 ·simp only [if_neg e]
  have:=rowI_l0 x p c h hl hc hx hp x.length 0 (by omega) (by omega)
  rw [mixl_zero] at this
  exact this
theorem clearS_l0 (a p:List Int) (c:Nat) (h:a.length=p.length) (hl:a.length≤16777216) (hc:c<a.length) (hx:Small a) (hp:Small p) (d:Nat):∀i:Nat,a.length-i=d→i≤a.length→Ev (fun k=>spec_l5Clear.l0 k a p (c:Int) ((comb a p c).take i) (i:Int)) (tid (comb a p c)):=by
 have hcl:=comb_len a p c h
 induction d with
|zero=>
  intro i hd hi
  rw [List.take_of_length_le (by omega)]
  refine Ev.step (f:=fun k=>(spec_l5Tidy.f k (comb a p c)).bind fun t=>some t) (fun k=>?_) (Ev.bind (tidyS_ev _ (by omega) (comb_small a p c h hx hp)) (Ev.now _))
  simp only [spec_l5Clear.l0]
  rw [if_neg (by omega)]
|succ d ih=>
  intro i hd hi
  have hi2:i<(comb a p c).length:=by omega
  refine Ev.step (f:=fun k=>spec_l5Clear.l0 k a p (c:Int) ((comb a p c).take (i+1)) ((i+1:Nat):Int)) (fun k=>?_) (ih (i+1) (by omega) (by omega))
  simp only [spec_l5Clear.l0]
  rw [if_pos (by omega),if_pos (by omega),if_pos (by omega),if_pos (by omega),if_pos (by omega),if_pos (by omega),if_pos (by rw [List.length_take];omega),at0_rd,at0_rd,at0_rd,at0_rd,comb_step a p c i h hx hp,at0_lt hi2,← List.take_succ_eq_append_getElem hi2,wrap_id (by omega) (by omega)]
  rfl
theorem clearS_ev (a p:List Int) (c:Nat) (h:a.length=p.length) (hl:a.length≤16777216) (hc:c<a.length) (hx:Small a) (hp:Small p):Ev (fun k=>spec_l5Clear.f k a p (c:Int)) (tid (comb a p c)):=
 clearS_l0 a p c h hl hc hx hp a.length 0 (by omega) (by omega)
def hit (c:Nat) (x:List Int):Bool:=decide (ld x=c∧c<x.length)
theorem idx106_l0 (X:List (List Int)) (c:Nat) (hl:X.length≤16777216) (hr:∀x∈X,x.length≤16777216) (d:Nat):∀i:Nat,X.length-i=d→i≤X.length→(∀j,j<i→∀x,X[j]?=some x→hit c x=false)→
  Ev (fun k=>slices_IndexFunc_int_int_106.l0 k X (c:Int) (X.length:Int) (i:Int)) (if X.findIdx (hit c)<X.length then (X.findIdx (hit c):Int) else -1):=by
 induction d with
|zero=>
  intro i hd hi hh
  have hn:¬X.findIdx (hit c)<X.length:=fun h=>by
   have h1:=List.findIdx_getElem (w:=h)
   have h2:=hh _ (by omega) _ (List.getElem?_eq_getElem h)
   rw [h2] at h1
   cases h1
  rw [if_neg hn]
  refine Ev.step (f:=fun _=>some (-1)) (fun k=>?_) (Ev.now _)
  simp only [slices_IndexFunc_int_int_106.l0]
  rw [if_neg (by omega)]
|succ d ih=>
  intro i hd hi hh
  have h:i<X.length:=by omega
  have hlead:=leadI_ev X[i] (hr _ (List.getElem_mem h))
  refine Ev.step (f:=fun k=>(impl_lead.f k X[i]).bind fun t=>if t=(c:Int) then some (i:Int) else slices_IndexFunc_int_int_106.l0 k X (c:Int) (X.length:Int) ((i+1:Nat):Int)) (fun k=>?_) (Ev.bind hlead ?_)
  ·simp only [slices_IndexFunc_int_int_106.l0]
   rw [if_pos (by omega),if_pos (by omega),if_pos (by omega),rdL_nat X i h,wrap_id (by omega) (by omega)]
   rfl
  ·by_cases e:hit c X[i]=true
   ·have e':ld X[i]=c∧c<X[i].length:=by simpa [hit] using e
    have hf:X.findIdx (hit c)=i:=by
     refine (List.findIdx_eq h).2 ⟨e,fun j hj=>?_⟩
     exact hh j hj _ (List.getElem?_eq_getElem (by omega))
    rw [hf,if_pos h]
    simp only [if_pos (show ld X[i]<X[i].length by omega),if_pos (show (ld X[i]:Int)=(c:Int) by omega)]
    exact Ev.now _
   ·have e':¬(ld X[i]=c∧c<X[i].length):=by simpa [hit] using e
    simp only [if_neg (show ¬(if ld X[i]<X[i].length then (ld X[i]:Int) else -1)=(c:Int) by split<;>omega)]
    refine ih (i+1) (by omega) (by omega) fun j hj x hx=>?_
    by_cases ej:j=i
    ·subst ej
     rw [List.getElem?_eq_getElem h] at hx
     cases hx
     simpa using e
    ·exact hh j (by omega) x hx
theorem idx106_ev (X:List (List Int)) (c:Nat) (hl:X.length≤16777216) (hr:∀x∈X,x.length≤16777216):Ev (fun k=>slices_IndexFunc_int_int_106.f k X (c:Int)) (if X.findIdx (hit c)<X.length then (X.findIdx (hit c):Int) else -1):=
 idx106_l0 X c hl hr X.length 0 (by omega) (by omega) fun j hj=>by omega
theorem copy_l0 (l:List (List Int)) (hl:l.length≤16777216) (hr:∀x∈l,x.length≤16777216) (d:Nat):∀i:Nat,l.length-i=d→i≤l.length→Ev (fun k=>impl_copyRows.l0 k (l.take i) l (l.length:Int) (i:Int)) l:=by
 induction d with
|zero=>
  intro i hd hi
  rw [List.take_of_length_le (by omega)]
  refine Ev.step (f:=fun _=>some l) (fun k=>?_) (Ev.now _)
  simp only [impl_copyRows.l0]
  rw [if_neg (by omega)]
|succ d ih=>
  intro i hd hi
  have h:i<l.length:=by omega
  have hc:slices_Clone_int_int_95.f l[i]=some l[i]:=by
   have:=hr _ (List.getElem_mem h)
   unfold slices_Clone_int_int_95.f
   simp only [Option.bind_some,List.length_nil,List.nil_append,Nat.zero_add]
   rw [if_pos (by omega)]
  refine Ev.step (f:=fun k=>impl_copyRows.l0 k (l.take (i+1)) l (l.length:Int) ((i+1:Nat):Int)) (fun k=>?_) (ih (i+1) (by omega) (by omega))
  simp only [impl_copyRows.l0]
  rw [if_pos (by omega),if_pos (by omega),if_pos (by omega),rdL_nat l i h,hc]
  simp only [Option.bind_some]
  rw [if_pos (by rw [List.length_take];omega),← List.take_succ_eq_append_getElem h,wrap_id (by omega) (by omega)]
  rfl
theorem copy_ev (l:List (List Int)) (hl:l.length≤16777216) (hr:∀x∈l,x.length≤16777216):Ev (fun k=>impl_copyRows.f k l) l:=copy_l0 l hl hr l.length 0 (by omega) (by omega)
theorem findIdx_hit (Q:List (List Int)) (c:Nat) (h:Q.findIdx (hit c)<Q.length):hit c Q[Q.findIdx (hit c)]=true:=List.findIdx_getElem (w:=h)
theorem implLp {S:V→Prop} {m0 n:Nat} (hb:∀o,S o→∀j,(o j).natAbs≤bnd m0 j) (hm0:m0≤6) (hn:n≤m0+1) (d:Nat):∀(c:Nat) (P:List (List Int × Nat)) (Q:List (List Int)),c+d=n→Red S c P Q→(∀p∈P,p.1.length=n)→(∀q∈Q,q.length=n)→Q.length≤16777216→
  ∃P' Q',Red S n P' Q'∧(∀p∈P',p.1.length=n)∧(∀q∈Q',q.length=n)∧Ev (fun k=>impl_reduceAny.lp k d c Q (P.map (·.1)).reverse) (P'.map (·.1)).reverse:=by
 induction d with
|zero=>
  intro c P Q hcd hR hP hQ hl
  obtain rfl:n=c:=by omega
  exact ⟨P,Q,hR,hP,hQ,Ev.now _⟩
|succ d ih=>
  intro c P Q hcd hR hP hQ hl
  have hidx:=idx106_ev Q c hl fun q hq=>by rw [hQ q hq];omega
  by_cases hf:Q.findIdx (hit c)<Q.length
  ·obtain ⟨i,hi⟩:∃i,i=Q.findIdx (hit c):=⟨_,rfl⟩
   have hh:=findIdx_hit Q c hf
   simp only [← hi] at hidx hf hh
   obtain ⟨q,hq⟩:∃q,q=Q[i]:=⟨_,rfl⟩
   rw [← hq] at hh
   have hqm:q∈Q:=by rw [hq];exact List.getElem_mem hf
   have hh':ld q=c∧c<q.length:=by simpa [hit] using hh
   have hqc:at0 q c≠0:=by
    have:=ld_ne q (by omega)
    rwa [hh'.1] at this
   have hsQ:∀r∈Q,Small r:=fun r hr j=>hR.small_rest hb (by omega) hm0 r hr j
   have hsP:∀p∈P,Small p.1:=fun p hp j=>by
    have:=hR.small_piv' hb (by omega) hm0 p hp j
    omega
   have hst:=hR.step (Q':=Q.eraseIdx i) hP hQ q hqc hqm (fun x hx=>by
    by_cases e:x=q
    ·exact .inl e
    ·right
     obtain ⟨j,hj,rfl⟩:=List.getElem_of_mem hx
     have hji:j≠i:=fun e2=>by
      subst e2
      exact e hq.symm
     rw [List.mem_iff_getElem?]
     by_cases hlt:j<i
     ·exact ⟨j,by rw [List.getElem?_eraseIdx,if_pos hlt,List.getElem?_eq_getElem hj]⟩
     ·refine ⟨j-1,?_⟩
      rw [List.getElem?_eraseIdx,if_neg (by omega),show j-1+1=j by omega,List.getElem?_eq_getElem hj]) (fun x hx=>List.mem_of_mem_eraseIdx hx)
   obtain ⟨P',Q',hR',hP',hQ',hev⟩:=ih (c+1) _ _ (by omega) hst (fun p hp=>by
    rcases List.mem_cons.1 hp with h|h
    ·rw [h];exact hQ q hqm
    ·obtain ⟨p2,hp2,e⟩:=List.mem_map.1 h
     rw [← e]
     show (clr c q p2.1).length=n
     rw [clr_len c q p2.1 (by rw [hP p2 hp2,hQ q hqm]),hP p2 hp2]) (fun r hr=>by
    obtain ⟨r2,hr2,e⟩:=List.mem_map.1 hr
    have:=hQ r2 (List.mem_of_mem_eraseIdx hr2)
    rw [← e,clr_len c q r2 (by rw [this,hQ q hqm]),this]) (by rw [List.length_map,List.length_eraseIdx,if_pos hf];omega)
   refine ⟨P',Q',hR',hP',hQ',?_⟩
   refine Ev.congr (f:=fun k=>(slices_IndexFunc_int_int_106.f k Q (c:Int)).bind fun i=>if i<0 then impl_reduceAny.lp k d (c+1) Q (P.map (·.1)).reverse else if i<(Q.length:Int) then (impl_reduceAny.mapO (impl_reduceAny.row k (c:Int) (Q.getD i.toNat [])) (Q.eraseIdx i.toNat)).bind fun X'=>(impl_reduceAny.mapO (impl_reduceAny.row k (c:Int) (Q.getD i.toNat [])) (P.map (·.1)).reverse).bind fun Y'=>impl_reduceAny.lp k d (c+1) X' (Y' ++ [Q.getD i.toNat []]) else none) (fun k=>rfl) (Ev.bind hidx ?_)
   simp only [if_pos hf]
   simp only [if_neg (show ¬(i:Int)<0 by omega),if_pos (show (i:Int)<(Q.length:Int) by omega),Int.toNat_natCast]
   have hgd:Q.getD i []=q:=by rw [hq,List.getD_eq_getElem?_getD,List.getElem?_eq_getElem hf];rfl
   simp only [hgd]
   refine Ev.bind (mapO_ev (fun k=>impl_reduceAny.row k (c:Int) q) (clr c q) _ fun x hx=>?_) ?_
   ·have hx2:=List.mem_of_mem_eraseIdx hx
    exact rowI_ev x q c (by rw [hQ x hx2,hQ q hqm]) (by rw [hQ x hx2];omega) (by rw [hQ x hx2];omega) (hsQ x hx2) (hsQ q hqm)
   ·refine Ev.bind (mapO_ev (fun k=>impl_reduceAny.row k (c:Int) q) (clr c q) _ fun x hx=>?_) ?_
    ·obtain ⟨p,hp,e⟩:=List.mem_map.1 (List.mem_reverse.1 hx)
     subst e
     exact rowI_ev p.1 q c (by rw [hP p hp,hQ q hqm]) (by rw [hP p hp];omega) (by rw [hP p hp];omega) (hsP p hp) (hsQ q hqm)
    ·have e:(P.map (·.1)).reverse.map (clr c q) ++ [q]=(((q,c) :: P.map fun p=>(clr c q p.1,p.2)).map (·.1)).reverse:=by
      simp [List.map_reverse,List.map_map,Function.comp_def]
     rw [e]
     exact hev
  ·obtain ⟨P',Q',hR',hP',hQ',hev⟩:=ih (c+1) P Q (by omega) (hR.skip fun q hq=>by
    refine Classical.byContradiction fun hne=>?_
    have hld:=ld_eq q c (fun j hj=>hR.low q hq j hj) hne
    have hlt:c<q.length:=by rw [hQ q hq];omega
    have hh:hit c q=true:=by simp [hit,hld,hlt]
    exact hf (List.findIdx_lt_length_of_exists ⟨q,hq,hh⟩)) hP hQ hl
   refine ⟨P',Q',hR',hP',hQ',?_⟩
   refine Ev.congr (f:=fun k=>(slices_IndexFunc_int_int_106.f k Q (c:Int)).bind fun i=>if i<0 then impl_reduceAny.lp k d (c+1) Q (P.map (·.1)).reverse else if i<(Q.length:Int) then (impl_reduceAny.mapO (impl_reduceAny.row k (c:Int) (Q.getD i.toNat [])) (Q.eraseIdx i.toNat)).bind fun X'=>(impl_reduceAny.mapO (impl_reduceAny.row k (c:Int) (Q.getD i.toNat [])) (P.map (·.1)).reverse).bind fun Y'=>impl_reduceAny.lp k d (c+1) X' (Y' ++ [Q.getD i.toNat []]) else none) (fun k=>rfl) (Ev.bind hidx ?_)
   simp only [if_neg hf]
   simp only [if_pos (show (-1:Int)<0 by omega)]
   exact hev
structure Okm (m : List (List Int)) (m0 n : Nat) : Prop where
 pos : 1 ≤ n
 cols : n ≤ m0 + 1
 le6 : m0 ≤ 6
 rows : m.length ≤ 1000
 len : ∀ r ∈ m, r.length = n
 small : ∀ r ∈ m, ∀ j, (at0 r j).natAbs ≤ bnd m0 j
theorem Okm.start {m:List (List Int)} {m0 n:Nat} (h:Okm m m0 n):(∀o,RowSp m o→∀j,(o j).natAbs≤bnd m0 j)∧∀r∈m,∀j,(at0 r j).natAbs<9223372036854775808:=by
 refine ⟨fun o ho j=>?_,fun r hr j=>?_⟩
 ·obtain ⟨r,hr,rfl⟩:=ho
  exact h.small r hr j
 ·have:=h.small r hr j
  have:=bnd_le m0 j
  omega
theorem implRed {m:List (List Int)} {m0 n:Nat} (h:Okm m m0 n):∃P Q,Red (RowSp m) n P Q∧(∀p∈P,p.1.length=n)∧(∀q∈Q,q.length=n)∧Ev (fun k=>impl_reduceAny.f k m (n:Int)) (P.map (·.1)).reverse:=by
 have h1:=h.pos;have h2:=h.cols;have h3:=h.le6;have h4:=h.rows
 obtain ⟨P,Q,hR,hP,hQ,hev⟩:=implLp h.start.1 h.le6 h.cols n 0 [] (m.map tid) (by omega) (Red.start m) (by simp) (fun q hq=>by
  obtain ⟨r,hr,rfl⟩:=List.mem_map.1 hq
  rw [tid_len,h.len r hr]) (by rw [List.length_map];omega)
 refine ⟨P,Q,hR,hP,hQ,?_⟩
 unfold impl_reduceAny.f
 refine Ev.bind (copy_ev m (by omega) fun r hr=>by rw [h.len r hr];omega) ?_
 simp only [if_pos (show 1≤(n:Int)∧(n:Int)≤1000000∧m.length≤1000000∧(∀x∈m,(x.length:Int)=(n:Int)) from ⟨by omega,by omega,by omega,fun x hx=>by rw [h.len x hx]⟩)]
 refine Ev.bind (mapO_ev (fun k=>impl_tidy.f k) tid m fun x hx=>tidyI_ev x (by rw [h.len x hx];omega) (h.start.2 x hx)) ?_
 rw [Int.toNat_natCast]
 exact hev
def swp (Q:List (List Int)) (j:Nat):List (List Int):=(Q.set j (Q.getD 0 [])).tail
theorem swp_set (L Q:List (List Int)) (j:Nat) (q:List Int) (h:j<Q.length):((L ++ Q).set (L.length+j) (Q.getD 0 [])).set L.length q=L ++ q :: swp Q j:=by
 rw [List.set_append_right _ _ (by omega),Nat.add_sub_cancel_left,List.set_append_right _ _ (by omega),Nat.sub_self]
 congr 1
 unfold swp
 cases hQ:Q.set j (Q.getD 0 []) with
 | nil=>
  have:=congrArg List.length hQ
  simp at this
  subst this
  simp at h
 | cons a l=>simp
theorem swp_len (Q:List (List Int)) (j:Nat) (h:j<Q.length):(swp Q j).length+1=Q.length:=by
 unfold swp
 rw [List.length_tail,List.length_set]
 omega
theorem swp_get (Q:List (List Int)) (j i:Nat):(swp Q j)[i]?=if j=i+1∧i+1<Q.length then some (Q.getD 0 []) else Q[i+1]?:=by
 unfold swp
 rw [List.getElem?_tail,List.getElem?_set]
 by_cases h1:j=i+1
 ·subst h1
  by_cases h2:i+1<Q.length
  ·simp [h2]
  ·simp [h2]
 ·simp [h1]
theorem swp_sub (Q:List (List Int)) (j:Nat) (h:j<Q.length):∀x∈swp Q j,x∈Q:=fun x hx=>by
 obtain ⟨i,hi⟩:=List.getElem?_of_mem hx
 rw [swp_get] at hi
 split at hi
 ·cases hi
  rw [List.getD_eq_getElem?_getD,List.getElem?_eq_getElem (by omega)]
  exact List.getElem_mem _
 ·exact List.mem_of_getElem? hi
theorem swp_all (Q:List (List Int)) (j:Nat) (h:j<Q.length):∀x∈Q,x=Q[j]∨x∈swp Q j:=fun x hx=>by
 obtain ⟨i,hi,rfl⟩:=List.getElem_of_mem hx
 by_cases e:i=j
 ·subst e;exact .inl rfl
 ·right
  by_cases h0:i=0
  ·subst h0
   refine List.mem_of_getElem? (i:=j-1) ?_
   rw [swp_get,if_pos ⟨by omega,by omega⟩,List.getD_eq_getElem?_getD,List.getElem?_eq_getElem hi]
   rfl
  ·refine List.mem_of_getElem? (i:=i-1) ?_
   rw [swp_get,if_neg (by omega),show i-1+1=i by omega,List.getElem?_eq_getElem hi]
theorem specL3 {α:Nat→Option (List (List Int))} (R F:List (List Int)) (cols:Int) (at_ c n:Nat) (q:List Int) (r:List (List Int)) (hl:R.length=F.length) (hR:R.length≤1000) (hat:at_<R.length) (hq:R[at_]?=some q) (hqF:F[at_]?=some q) (hn:n≤16777216) (hc:c<n)
  (hlen:∀x∈R,x.length=n) (hsm:∀x∈R,Small x) (hF:∀i x,i≠at_→R[i]?=some x→F[i]?=some (clr c q x)) (hc2:c≤1000)
  (hend:Ev (fun k=>spec_l5Reduce.l1 k cols F ((at_+1:Nat):Int) ((c+1:Nat):Int)) r) (d:Nat):∀i:Nat,R.length-i=d→i≤R.length→Ev (fun k=>spec_l5Reduce.l3 k cols (mixl R F i) (at_:Int) (c:Int) (i:Int)) r:=by
 have hqm:q∈R:=List.mem_of_getElem? hq
 induction d with
|zero=>
  intro i hd hi
  rw [mixl_all R F i hl (by omega)]
  refine Ev.step (f:=fun k=>spec_l5Reduce.l1 k cols F ((at_+1:Nat):Int) ((c+1:Nat):Int)) (fun k=>?_) hend
  simp only [spec_l5Reduce.l3]
  rw [if_neg (by omega),wrap_id (by omega) (by omega),wrap_id (by omega) (by omega)]
  rfl
|succ d ih=>
  intro i hd hi
  have h:i<R.length:=by omega
  have hml:=mixl_len R F i hl (by omega)
  by_cases e:i=at_
  ·refine Ev.step (f:=fun k=>spec_l5Reduce.l3 k cols (mixl R F (i+1)) (at_:Int) (c:Int) ((i+1:Nat):Int)) (fun k=>?_) (ih (i+1) (by omega) (by omega))
   simp only [spec_l5Reduce.l3]
   rw [if_pos (by omega),if_pos (by omega),wrap_id (by omega) (by omega),mixl_same R F i hl (by rw [e,hq,hqF])]
   rfl
  ·have hx:=List.getElem?_eq_getElem h
   have hxm:R[i]∈R:=List.getElem_mem h
   have hgi:(mixl R F i)[i]?=some R[i]:=by rw [mixl_get R F i i hl,if_neg (by omega),hx]
   have hga:(mixl R F i)[at_]?=some q:=by
    rw [mixl_get R F i at_ hl]
    split
    ·exact hqF
    ·exact hq
   have hri:rd_L1 (mixl R F i) (i:Int)=R[i]:=by
    rw [rdL_nat _ i (by omega)]
    exact (List.getElem?_eq_some_iff.1 hgi).2
   have hra:rd_L1 (mixl R F i) (at_:Int)=q:=by
    rw [rdL_nat _ at_ (by omega)]
    exact (List.getElem?_eq_some_iff.1 hga).2
   have hFi:=hF i R[i] e hx
   have hlx:=hlen _ hxm
   by_cases h0:at0 R[i] c=0
   ·have hsame:F[i]?=R[i]?:=by rw [hFi,hx];unfold clr;rw [if_pos h0]
    refine Ev.step (f:=fun k=>spec_l5Reduce.l3 k cols (mixl R F (i+1)) (at_:Int) (c:Int) ((i+1:Nat):Int)) (fun k=>?_) (ih (i+1) (by omega) (by omega))
    simp only [spec_l5Reduce.l3]
    rw [if_pos (by omega),if_neg (by omega),if_pos (by omega),if_pos (by omega),hri,if_pos (by omega),at0_rd,if_pos h0,wrap_id (by omega) (by omega),mixl_same R F i hl hsame]
    rfl
   ·have hcl:=clearS_ev R[i] q c (by rw [hlx,hlen q hqm]) (by omega) (by omega) (hsm _ hxm) (hsm q hqm)
    refine Ev.step (f:=fun k=>(spec_l5Clear.f k R[i] q (c:Int)).bind fun t=>spec_l5Reduce.l3 k cols ((mixl R F i).set i t) (at_:Int) (c:Int) ((i+1:Nat):Int)) (fun k=>?_) (Ev.bind hcl ?_)
    ·simp only [spec_l5Reduce.l3]
     rw [if_pos (by omega),if_neg (by omega),if_pos (by omega),if_pos (by omega),hri,if_pos (by omega),at0_rd,if_neg h0,if_pos (by omega),if_pos (by omega),hra,wrap_id (by omega) (by omega),Int.toNat_natCast]
     rfl
    ·have hFi2:F[i]?=some (tid (comb R[i] q c)):=by
      rw [hFi]
      unfold clr
      rw [if_neg h0]
     simp only [mixl_set R F i _ hl hFi2]
     exact ih (i+1) (by omega) (by omega)
theorem specL2 (rows:List (List Int)) (cols:Int) (at_ c:Nat) (r:List (List Int)) (hR:rows.length≤1000) (hlen:∀x∈rows,c<x.length) (hc2:c≤1000) (p:Nat) (hp:p≤rows.length) (hz:∀i x,at_≤i→i<p→rows[i]?=some x→at0 x c=0) (hnz:∀x,rows[p]?=some x→at0 x c≠0)
  (hend:Ev (fun k=>spec_l5Reduce.j3 k cols rows (at_:Int) (c:Int) (p:Int)) r) (d:Nat):∀i:Nat,p-i=d→at_≤i→i≤p→Ev (fun k=>spec_l5Reduce.l2 k cols rows (at_:Int) (c:Int) (i:Int)) r:=by
 induction d with
|zero=>
  intro i hd ha hi
  obtain rfl:p=i:=by omega
  refine Ev.step (f:=fun k=>spec_l5Reduce.j3 k cols rows (at_:Int) (c:Int) (p:Int)) (fun k=>?_) hend
  simp only [spec_l5Reduce.l2]
  by_cases h:p<rows.length
  ·have h1:=hnz _ (List.getElem?_eq_getElem h)
   have h2:=hlen _ (List.getElem_mem h)
   rw [if_pos (by omega),if_pos (by omega),if_pos (by omega),rdL_nat rows p h,if_pos (by omega),at0_rd,if_neg h1]
  ·rw [if_neg (by omega)]
|succ d ih=>
  intro i hd ha hi
  have h:i<rows.length:=by omega
  have h1:=hz i _ ha (by omega) (List.getElem?_eq_getElem h)
  have h2:=hlen _ (List.getElem_mem h)
  refine Ev.step (f:=fun k=>spec_l5Reduce.l2 k cols rows (at_:Int) (c:Int) ((i+1:Nat):Int)) (fun k=>?_) (ih (i+1) (by omega) (by omega) (by omega))
  simp only [spec_l5Reduce.l2]
  rw [if_pos (by omega),if_pos (by omega),if_pos (by omega),rdL_nat rows i h,if_pos (by omega),at0_rd,if_pos h1,wrap_id (by omega) (by omega)]
  rfl
theorem specL1 {S:V→Prop} {m0 n cols:Nat} (hb:∀o,S o→∀j,(o j).natAbs≤bnd m0 j) (hm0:m0≤6) (hn:n≤7) (hcm:cols≤m0) (hcn:cols≤n) (d:Nat):∀(c:Nat) (P:List (List Int × Nat)) (Q:List (List Int)),c+d=cols→Red S c P Q→(∀p∈P,p.1.length=n)→(∀q∈Q,q.length=n)→P.length+Q.length≤1000→
  ∃P' Q',Red S cols P' Q'∧(∀p∈P',p.1.length=n)∧(∀q∈Q',q.length=n)∧P'.length+Q'.length=P.length+Q.length∧Ev (fun k=>spec_l5Reduce.l1 k (cols:Int) ((P.map (·.1)).reverse ++ Q) (P.length:Int) (c:Int)) ((P'.map (·.1)).reverse ++ Q'):=by
 induction d with
|zero=>
  intro c P Q hcd hR hP hQ hl
  obtain rfl:cols=c:=by omega
  refine ⟨P,Q,hR,hP,hQ,rfl,?_⟩
  refine Ev.step (f:=fun _=>some ((P.map (·.1)).reverse ++ Q)) (fun k=>?_) (Ev.now _)
  simp only [spec_l5Reduce.l1]
  rw [if_neg (by omega)]
|succ d ih=>
  intro c P Q hcd hR hP hQ hl
  obtain ⟨L,hL⟩:∃L,L=(P.map (·.1)).reverse:=⟨_,rfl⟩
  have hLl:L.length=P.length:=by rw [hL];simp
  have hLm:∀x∈L,∃p∈P,p.1=x:=fun x hx=>by
   rw [hL] at hx
   obtain ⟨p,hp,e⟩:=List.mem_map.1 (List.mem_reverse.1 hx)
   exact ⟨p,hp,e⟩
  have hll:∀x∈L ++ Q,x.length=n:=fun x hx=>by
   rcases List.mem_append.1 hx with h|h
   ·obtain ⟨p,hp,rfl⟩:=hLm x h
    exact hP p hp
   ·exact hQ x h
  have hsm:∀x∈L ++ Q,Small x:=fun x hx j=>by
   rcases List.mem_append.1 hx with h|h
   ·obtain ⟨p,hp,rfl⟩:=hLm x h
    have:=hR.small_piv' hb (by omega) hm0 p hp j
    omega
   ·exact hR.small_rest hb (by omega) hm0 x h j
  have hlen:(L ++ Q).length≤1000:=by rw [List.length_append];omega
  obtain ⟨j,hj⟩:∃j,j=Q.findIdx (fun x=>decide (at0 x c≠0)):=⟨_,rfl⟩
  have hjle:j≤Q.length:=by rw [hj];exact List.findIdx_le_length
  have hz:∀i x,i<j→Q[i]?=some x→at0 x c=0:=fun i x hi hx=>by
   have h1:=List.not_of_lt_findIdx (p:=fun x=>decide (at0 x c≠0)) (xs:=Q) (i:=i) (by rw [← hj];exact hi)
   have h2:=(List.getElem?_eq_some_iff.1 hx).2
   rw [h2] at h1
   simpa using h1
  have hl2:∀r,Ev (fun k=>spec_l5Reduce.j3 k (cols:Int) (L ++ Q) (P.length:Int) (c:Int) ((P.length+j:Nat):Int)) r→Ev (fun k=>spec_l5Reduce.l1 k (cols:Int) (L ++ Q) (P.length:Int) (c:Int)) r:=fun r hr=>by
   refine Ev.step (f:=fun k=>spec_l5Reduce.l2 k (cols:Int) (L ++ Q) (P.length:Int) (c:Int) (P.length:Int)) (fun k=>?_) ?_
   ·simp only [spec_l5Reduce.l1]
    rw [if_pos (by omega)]
   ·refine specL2 (L ++ Q) cols P.length c r hlen (fun x hx=>by rw [hll x hx];omega) (by omega) (P.length+j) (by rw [List.length_append];omega) (fun i x h1 h2 hx=>?_) (fun x hx=>?_) hr j P.length (by omega) (by omega) (by omega)
    ·rw [List.getElem?_append_right (by omega)] at hx
     exact hz _ x (by omega) hx
    ·rw [List.getElem?_append_right (by omega),hLl,Nat.add_sub_cancel_left] at hx
     have h1:=(List.getElem?_eq_some_iff.1 hx).1
     have h2:=List.findIdx_getElem (p:=fun x=>decide (at0 x c≠0)) (xs:=Q) (w:=by rw [← hj];exact h1)
     have h3:=(List.getElem?_eq_some_iff.1 hx).2
     simp only [← hj,h3] at h2
     simpa using h2
  rw [← hL]
  by_cases hjl:j<Q.length
  ·obtain ⟨q,hq⟩:∃q,q=Q[j]:=⟨_,rfl⟩
   have hqm:q∈Q:=by rw [hq];exact List.getElem_mem hjl
   have hqc:at0 q c≠0:=by
    have h2:=List.findIdx_getElem (p:=fun x=>decide (at0 x c≠0)) (xs:=Q) (w:=by rw [← hj];exact hjl)
    simp only [← hj,← hq] at h2
    simpa using h2
   have hqt:tid q=q:=by
    rcases hR.tq q hqm with h|⟨h,k,h1,h2⟩
    ·exact absurd (h c) hqc
    ·exact tid_tidy q h k h1 h2
   have hst:=hR.step (Q':=swp Q j) hP hQ q hqc hqm (by rw [hq];exact swp_all Q j hjl) (swp_sub Q j hjl)
   obtain ⟨P',Q',hR',hP',hQ',hl',hev⟩:=ih (c+1) _ _ (by omega) hst (fun p hp=>by
    rcases List.mem_cons.1 hp with h|h
    ·rw [h];exact hQ q hqm
    ·obtain ⟨p2,hp2,e⟩:=List.mem_map.1 h
     rw [← e]
     show (clr c q p2.1).length=n
     rw [clr_len c q p2.1 (by rw [hP p2 hp2,hQ q hqm]),hP p2 hp2]) (fun r hr=>by
    obtain ⟨r2,hr2,e⟩:=List.mem_map.1 hr
    have:=hQ r2 (swp_sub Q j hjl r2 hr2)
    rw [← e,clr_len c q r2 (by rw [this,hQ q hqm]),this]) (by
    have:=swp_len Q j hjl
    simp only [List.length_cons,List.length_map]
    omega)
   refine ⟨P',Q',hR',hP',hQ',by
    have:=swp_len Q j hjl
    simp only [List.length_cons,List.length_map] at hl'
    omega,hl2 _ ?_⟩
   have hrp:rd_L1 (L ++ Q) ((P.length+j:Nat):Int)=q:=by
    rw [rdL_nat _ _ (by rw [List.length_append];omega),List.getElem_append_right (by omega),hq]
    congr 1
    omega
   have hra:rd_L1 (L ++ Q) (P.length:Int)=Q.getD 0 []:=by
    rw [rdL_nat _ _ (by rw [List.length_append];omega),List.getElem_append_right (by omega),List.getD_eq_getElem?_getD,List.getElem?_eq_getElem (by omega)]
    show Q[_]=Q[0]
    congr 1
    omega
   have htd:=tidyS_ev q (by rw [hQ q hqm];omega) (fun i=>by have:=hsm q (List.mem_append_right _ hqm) i;omega)
   rw [hqt] at htd
   refine Ev.step (f:=fun k=>(spec_l5Tidy.f k q).bind fun t=>spec_l5Reduce.l3 k (cols:Int) (((L ++ Q).set (P.length+j) (Q.getD 0 [])).set P.length t) (P.length:Int) (c:Int) 0) (fun k=>?_) (Ev.bind htd ?_)
   ·simp only [spec_l5Reduce.j3]
    rw [if_neg (by rw [List.length_append];omega),if_pos (by omega),if_pos (by rw [List.length_append];omega),if_pos (by omega),if_pos (by rw [List.length_append];omega),hrp,hra,Int.toNat_natCast,Int.toNat_natCast]
   ·have hset:=swp_set L Q j q hjl
    rw [hLl] at hset
    simp only [hset]
    have hFe:(((q,c) :: P.map fun p=>(clr c q p.1,p.2)).map (·.1)).reverse ++ (swp Q j).map (clr c q)=L.map (clr c q) ++ q :: (swp Q j).map (clr c q):=by
     rw [hL]
     simp [List.map_reverse,List.map_map,Function.comp_def]
    rw [hFe] at hev
    have hall:∀x∈L ++ q :: swp Q j,x∈L ++ Q:=fun x hx=>by
     rcases List.mem_append.1 hx with h|h
     ·exact List.mem_append_left _ h
     ·rcases List.mem_cons.1 h with h|h
      ·rw [h];exact List.mem_append_right _ hqm
      ·exact List.mem_append_right _ (swp_sub Q j hjl x h)
    have hsl:=swp_len Q j hjl
    have h3:=specL3 (α:=fun _=>none) (L ++ q :: swp Q j) (L.map (clr c q) ++ q :: (swp Q j).map (clr c q)) cols P.length c n q _ (by simp) (by simp;omega) (by simp;omega) (by rw [List.getElem?_append_right (by omega),hLl,Nat.sub_self];rfl)
     (by rw [List.getElem?_append_right (by rw [List.length_map];omega),List.length_map,hLl,Nat.sub_self];rfl) (by omega) (by omega) (fun x hx=>hll x (hall x hx)) (fun x hx=>hsm x (hall x hx)) (fun i x hi hx=>by
      rcases Nat.lt_or_ge i L.length with h|h
      ·rw [List.getElem?_append_left h] at hx
       rw [List.getElem?_append_left (by rw [List.length_map];exact h),List.getElem?_map,hx]
       rfl
      ·rw [List.getElem?_append_right h] at hx
       rw [List.getElem?_append_right (by rw [List.length_map];exact h),List.length_map]
       obtain ⟨e,he⟩:∃e,i-L.length=e+1:=⟨i-L.length-1,by omega⟩
       rw [he] at hx ⊢
       simp only [List.getElem?_cons_succ] at hx ⊢
       rw [List.getElem?_map,hx]
       rfl) (by omega) (by
      simp only [List.length_cons,List.length_map] at hev
      exact hev) _ 0 rfl (by omega)
    rw [mixl_zero] at h3
    exact h3
  ·obtain rfl:j=Q.length:=by omega
   obtain ⟨P',Q',hR',hP',hQ',hl',hev⟩:=ih (c+1) P Q (by omega) (hR.skip fun q hq=>by
    obtain ⟨i,hi,rfl⟩:=List.getElem_of_mem hq
    exact hz i _ hi (List.getElem?_eq_getElem hi)) hP hQ hl
   rw [← hL] at hev
   refine ⟨P',Q',hR',hP',hQ',hl',hl2 _ ?_⟩
   refine Ev.step (f:=fun k=>spec_l5Reduce.l1 k (cols:Int) (L ++ Q) (P.length:Int) ((c+1:Nat):Int)) (fun k=>?_) hev
   simp only [spec_l5Reduce.j3]
   rw [if_pos (by rw [List.length_append];omega),wrap_id (by omega) (by omega)]
   rfl
theorem specL0 (m:List (List Int)) (cols:Int) (r:List (List Int)) (hm:m.length≤1000) (hl:∀x∈m,x.length≤16777216) (hs:∀x∈m,∀j,(at0 x j).natAbs<9223372036854775808)
  (hend:Ev (fun k=>spec_l5Reduce.l1 k cols (m.map tid) 0 0) r) (d:Nat):∀i:Nat,m.length-i=d→i≤m.length→Ev (fun k=>spec_l5Reduce.l0 k m cols ((m.map tid).take i) (i:Int)) r:=by
 induction d with
|zero=>
  intro i hd hi
  rw [List.take_of_length_le (by rw [List.length_map];omega)]
  refine Ev.step (f:=fun k=>spec_l5Reduce.l1 k cols (m.map tid) 0 0) (fun k=>?_) hend
  simp only [spec_l5Reduce.l0]
  rw [if_neg (by omega)]
|succ d ih=>
  intro i hd hi
  have h:i<m.length:=by omega
  have htd:=tidyS_ev m[i] (hl _ (List.getElem_mem h)) (hs _ (List.getElem_mem h))
  refine Ev.step (f:=fun k=>(spec_l5Tidy.f k m[i]).bind fun t=>spec_l5Reduce.l0 k m cols ((m.map tid).take i ++ [t]) ((i+1:Nat):Int)) (fun k=>?_) (Ev.bind htd ?_)
  ·simp only [spec_l5Reduce.l0]
   have h5:((m.map tid).take i).length<5864062014805:=by rw [List.length_take];omega
   rw [if_pos (by omega),if_pos (by omega),rdL_nat m i h,wrap_id (by omega) (by omega)]
   simp only [if_pos h5]
   rfl
  ·have e:(m.map tid).take i ++ [tid m[i]]=(m.map tid).take (i+1):=by
    rw [List.take_succ_eq_append_getElem (by rw [List.length_map];exact h),List.getElem_map]
   simp only [e]
   exact ih (i+1) (by omega) (by omega)
theorem specRed {m:List (List Int)} {m0 n cols:Nat} (h:Okm m m0 n) (hc:cols≤m0) (hcn:cols≤n):∃P Q,Red (RowSp m) cols P Q∧(∀p∈P,p.1.length=n)∧(∀q∈Q,q.length=n)∧P.length+Q.length=m.length∧Ev (fun k=>spec_l5Reduce.f k m (cols:Int)) ((P.map (·.1)).reverse ++ Q):=by
 have h1:=h.pos;have h2:=h.cols;have h3:=h.le6;have h4:=h.rows
 obtain ⟨P,Q,hR,hP,hQ,hl,hev⟩:=specL1 h.start.1 h.le6 (by omega) hc hcn cols 0 [] (m.map tid) (by omega) (Red.start m) (by simp) (fun q hq=>by
  obtain ⟨r,hr,rfl⟩:=List.mem_map.1 hq
  rw [tid_len,h.len r hr]) (by simp;omega)
 refine ⟨P,Q,hR,hP,hQ,by simpa using hl,?_⟩
 unfold spec_l5Reduce.f
 exact specL0 m cols _ h.rows (fun x hx=>by rw [h.len x hx];omega) h.start.2 (by simpa using hev) m.length 0 (by omega) (by omega)
theorem isMat_iff (m:List (List Int)) (c:Int):isMat m c=true↔(1≤c∧c≤6)∧m.length≤12∧∀r∈m,(r.length:Int)=c∧∀x∈r, -2≤x∧x≤2:=by
 unfold isMat rowOk
 simp only [Bool.and_eq_true,decide_eq_true_eq,List.all_eq_true]
 constructor
 ·rintro ⟨⟨h1,h2⟩,h3⟩
  exact ⟨h1,h2,h3⟩
 ·rintro ⟨h1,h2,h3⟩
  exact ⟨⟨h1,h2⟩,h3⟩
theorem red_rest {S:V→Prop} {c n:Nat} {P:List (List Int × Nat)} {Q:List (List Int)} (h:Red S c P Q) (hcn:n≤c) (hQ:∀q∈Q,q.length=n):∀q∈Q,∀j,at0 q j=0:=fun q hq j=>by
 rcases Nat.lt_or_ge j c with hj|hj
 ·exact h.low q hq j hj
 ·exact at0_out (by rw [hQ q hq];omega)
theorem okm_of_isMat {m:List (List Int)} {c:Int} (h:isMat m c=true):∃n:Nat,c=(n:Int)∧Okm m n n∧m.length≤12:=by
 have h':=(isMat_iff m c).1 h
 obtain ⟨h1,h2,h3⟩:=h'
 refine ⟨c.toNat,by omega,⟨by omega,by omega,by omega,by omega,fun r hr=>?_,fun r hr j=>?_⟩,h2⟩
 ·have:=(h3 r hr).1
  omega
 ·have h4:=h3 r hr
  rcases Nat.lt_or_ge j r.length with hj|hj
  ·rw [at0_lt hj]
   have h5:=h4.2 _ (List.getElem_mem hj)
   unfold bnd
   rw [if_pos (by omega)]
   omega
  ·rw [at0_out hj]
   simp
def aug (m:List (List Int)) (v:List Int):List (List Int):=List.zipWith (fun r x=>r ++ [x]) m v
theorem aug_len (m:List (List Int)) (v:List Int) (h:v.length=m.length):(aug m v).length=m.length:=by
 unfold aug
 rw [List.length_zipWith]
 omega
theorem aug_get (m:List (List Int)) (v:List Int) (i:Nat) (h1:i<m.length) (h2:i<v.length):(aug m v)[i]?=some (m[i] ++ [v[i]]):=by
 unfold aug
 rw [List.getElem?_zipWith,List.getElem?_eq_getElem h1,List.getElem?_eq_getElem h2]
theorem aug_take (m:List (List Int)) (v:List Int) (i:Nat) (h:v.length=m.length) (h1:i<m.length):(aug m v).take i ++ [m[i] ++ [v[i]'(by omega)]]=(aug m v).take (i+1):=by
 have hl:=aug_len m v h
 rw [List.take_succ_eq_append_getElem (by omega)]
 congr 2
 have:=aug_get m v i h1 (by omega)
 rw [List.getElem?_eq_getElem (by omega)] at this
 exact (Option.some.inj this).symm
theorem at0_append (r:List Int) (x:Int) (j:Nat):at0 (r ++ [x]) j=if j<r.length then at0 r j else if j=r.length then x else 0:=by
 unfold at0
 rw [List.getD_eq_getElem?_getD,List.getD_eq_getElem?_getD]
 by_cases h1:j<r.length
 ·rw [if_pos h1,List.getElem?_append_left h1]
 ·rw [if_neg h1,List.getElem?_append_right (by omega)]
  by_cases h2:j=r.length
  ·subst h2
   rw [if_pos rfl,Nat.sub_self]
   rfl
  ·rw [if_neg h2,List.getElem?_eq_none (by simp;omega)]
   rfl
theorem isSys_iff (m:List (List Int)) (v:List Int) (c:Int):isSys m v c=true↔isMat m c=true∧v.length=m.length∧∀x∈v, -1000≤x∧x≤1000:=by
 unfold isSys
 simp only [Bool.and_eq_true,decide_eq_true_eq,List.all_eq_true]
 constructor
 ·intro h
  obtain ⟨h1,h2⟩:=h
  first
   | exact ⟨h1.1,by omega,h2⟩
   | exact ⟨h1,by omega,h2.2⟩
   | exact ⟨h2.1,by omega,h1⟩
 ·rintro ⟨h1,h2,h3⟩
  first
   | exact ⟨⟨h1,by omega⟩,h3⟩
   | exact ⟨h1,by omega,h3⟩
   | exact ⟨h3,h1,by omega⟩
theorem okm_aug {m:List (List Int)} {v:List Int} {n:Nat} (h:Okm m n n) (hv:v.length=m.length) (hs:∀x∈v, -1000≤x∧x≤1000):Okm (aug m v) n (n+1):=by
 have hmem:∀r∈aug m v,∃r0∈m,∃x∈v,r=r0 ++ [x]:=fun r hr=>by
  obtain ⟨i,hi⟩:=List.getElem?_of_mem hr
  have hl:=aug_len m v hv
  have hlt:=(List.getElem?_eq_some_iff.1 hi).1
  rw [aug_get m v i (by omega) (by omega)] at hi
  cases hi
  exact ⟨_,List.getElem_mem _,_,List.getElem_mem _,rfl⟩
 refine ⟨by omega,Nat.le_refl _,h.le6,by rw [aug_len m v hv];exact h.rows,fun r hr=>?_,fun r hr j=>?_⟩
 ·obtain ⟨r0,h0,x,hx,rfl⟩:=hmem r hr
  simp [h.len r0 h0]
 ·obtain ⟨r0,h0,x,hx,rfl⟩:=hmem r hr
  rw [at0_append,h.len r0 h0]
  by_cases h1:j<n
  ·rw [if_pos h1]
   exact h.small r0 h0 j
  ·rw [if_neg h1]
   by_cases h2:j=n
   ·rw [if_pos h2]
    have:=hs x hx
    unfold bnd
    rw [if_neg h1]
    omega
   ·rw [if_neg h2]
    simp
theorem solvedI_l0 (m:List (List Int)) (v:List Int) (c:Int) (r:List (List Int) × Bool) (hv:v.length=m.length) (hm:m.length≤1000) (hr:∀x∈m,x.length≤16777216)
  (hend:Ev (fun k=>(impl_reduceAny.f k (aug m v) (wrap64 (c+1))).bind fun t=>impl_solved.l1 k c t t (t.length:Int) 0) r) (d:Nat):∀i:Nat,m.length-i=d→i≤m.length→Ev (fun k=>impl_solved.l0 k v c ((aug m v).take i) m (m.length:Int) (i:Int)) r:=by
 have hal:=aug_len m v hv
 induction d with
|zero=>
  intro i hd hi
  rw [List.take_of_length_le (by omega)]
  refine Ev.step (fun k=>?_) hend
  simp only [impl_solved.l0]
  rw [if_neg (by omega)]
|succ d ih=>
  intro i hd hi
  have h:i<m.length:=by omega
  have hx:=hr _ (List.getElem_mem h)
  have hc:slices_Clone_int_int_95.f m[i]=some m[i]:=by
   unfold slices_Clone_int_int_95.f
   simp only [Option.bind_some,List.length_nil,List.nil_append,Nat.zero_add]
   rw [if_pos (by omega)]
  have hrv:rd v (i:Int)=v[i]'(by omega):=rd_nat v i (by omega)
  refine Ev.step (f:=fun k=>impl_solved.l0 k v c ((aug m v).take (i+1)) m (m.length:Int) ((i+1:Nat):Int)) (fun k=>?_) (ih (i+1) (by omega) (by omega))
  simp only [impl_solved.l0]
  rw [if_pos (by omega),if_pos (by omega),if_pos (by omega),rdL_nat m i h,hc]
  have h5:((aug m v).take i).length + [m[i] ++ [v[i]'(by omega)]].length<5864062014805:=by rw [List.length_take];simp;omega
  have h6:m[i].length + [v[i]'(by omega)].length<17592186044416:=by simp;omega
  simp only [Option.bind_some,if_pos (show (i:Int)<(v.length:Int) by omega),hrv,if_pos h6,if_pos h5]
  rw [aug_take m v i hv h,wrap_id (by omega) (by omega)]
  rfl
theorem l6Rows_l0 (m:List (List Int)) (v:List Int) (c:Int) (r:List (List Int)) (hv:v.length=m.length) (hm:m.length≤1000) (hr:∀x∈m,x.length≤16777216)
  (hend:Ev (fun k=>spec_l5Reduce.f k (aug m v) c) r) (d:Nat):∀i:Nat,m.length-i=d→i≤m.length→Ev (fun k=>spec_l6Rows.l0 k m v c ((aug m v).take i) (i:Int)) r:=by
 have hal:=aug_len m v hv
 induction d with
|zero=>
  intro i hd hi
  rw [List.take_of_length_le (by omega)]
  refine Ev.step (f:=fun k=>(spec_l5Reduce.f k (aug m v) c).bind fun t=>some t) (fun k=>?_) (Ev.bind hend (Ev.now _))
  simp only [spec_l6Rows.l0]
  rw [if_neg (by omega)]
|succ d ih=>
  intro i hd hi
  have h:i<m.length:=by omega
  have hx:=hr _ (List.getElem_mem h)
  have hrv:rd v (i:Int)=v[i]'(by omega):=rd_nat v i (by omega)
  refine Ev.step (f:=fun k=>spec_l6Rows.l0 k m v c ((aug m v).take (i+1)) ((i+1:Nat):Int)) (fun k=>?_) (ih (i+1) (by omega) (by omega))
  simp only [spec_l6Rows.l0]
  rw [if_pos (by omega)]
  have h4:0+m[i].length<17592186044416:=by omega
  have h5:((aug m v).take i).length + [m[i] ++ [v[i]'(by omega)]].length<5864062014805:=by rw [List.length_take];simp;omega
  have h6:m[i].length + [v[i]'(by omega)].length<17592186044416:=by simp;omega
  simp only [Option.bind_some,if_pos (show (0:Int)≤(i:Int) by omega),rdL_nat m i h,List.length_nil,List.nil_append,if_pos h4,if_pos (show (i:Int)<(v.length:Int) by omega),hrv,if_pos h6,if_pos h5]
  rw [aug_take m v i hv h,wrap_id (by omega) (by omega)]
  rfl
def bad (c:Nat) (R:List (List Int)):Bool:=R.any fun x=>decide (ld x=c∧c<x.length)
theorem solvedI_l1 (R:List (List Int)) (c:Nat) (hR:R.length≤1000) (hr:∀x∈R,x.length≤16777216) (d:Nat):∀i:Nat,R.length-i=d→i≤R.length→Ev (fun k=>impl_solved.l1 k (c:Int) R R (R.length:Int) (i:Int)) (if bad c (R.drop i) then ([],false) else (R,true)):=by
 induction d with
|zero=>
  intro i hd hi
  rw [List.drop_eq_nil_of_le (by omega)]
  refine Ev.step (f:=fun _=>some (R,true)) (fun k=>?_) (Ev.now _)
  simp only [impl_solved.l1]
  rw [if_neg (by omega)]
|succ d ih=>
  intro i hd hi
  have h:i<R.length:=by omega
  have hlead:=leadI_ev R[i] (hr _ (List.getElem_mem h))
  refine Ev.step (f:=fun k=>(impl_lead.f k R[i]).bind fun t=>if t=(c:Int) then some ([],false) else impl_solved.l1 k (c:Int) R R (R.length:Int) ((i+1:Nat):Int)) (fun k=>?_) (Ev.bind hlead ?_)
  ·simp only [impl_solved.l1]
   rw [if_pos (by omega),if_pos (by omega),if_pos (by omega),rdL_nat R i h,wrap_id (by omega) (by omega)]
   rfl
  ·rw [List.drop_eq_getElem_cons h]
   by_cases e:ld R[i]=c∧c<R[i].length
   ·have hb:bad c (R[i] :: R.drop (i+1))=true:=by
     simp only [bad,List.any_cons,decide_eq_true e,Bool.true_or]
    simp only [if_pos (show ld R[i]<R[i].length by omega),if_pos (show (ld R[i]:Int)=(c:Int) by omega),hb,if_true]
    exact Ev.now _
   ·have hb:bad c (R[i] :: R.drop (i+1))=bad c (R.drop (i+1)):=by
     simp only [bad,List.any_cons,decide_eq_false e,Bool.false_or]
    rw [hb]
    simp only [if_neg (show ¬(if ld R[i]<R[i].length then (ld R[i]:Int) else -1)=(c:Int) by split<;>omega)]
    exact ih (i+1) (by omega) (by omega)
theorem l6Good_l0 (R:List (List Int)) (c:Nat) (hR:R.length≤1000) (hr:∀x∈R,x.length≤16777216) (hc:∀x∈R,c<x.length) (d:Nat):∀i:Nat,R.length-i=d→i≤R.length→Ev (fun k=>spec_l6Good.l0 k R (c:Int) (i:Int)) (!bad c (R.drop i)):=by
 induction d with
|zero=>
  intro i hd hi
  rw [List.drop_eq_nil_of_le (by omega)]
  refine Ev.step (f:=fun _=>some true) (fun k=>?_) (Ev.now _)
  simp only [spec_l6Good.l0]
  rw [if_neg (by omega)]
|succ d ih=>
  intro i hd hi
  have h:i<R.length:=by omega
  have hlead:=leadS_ev R[i] (hr _ (List.getElem_mem h))
  have hcx:=hc _ (List.getElem_mem h)
  refine Ev.step (f:=fun k=>(spec_l5Lead.f k R[i]).bind fun t=>if t=(c:Int) then some false else spec_l6Good.l0 k R (c:Int) ((i+1:Nat):Int)) (fun k=>?_) (Ev.bind hlead ?_)
  ·simp only [spec_l6Good.l0]
   rw [if_pos (by omega),if_pos (by omega),rdL_nat R i h,wrap_id (by omega) (by omega)]
   rfl
  ·rw [List.drop_eq_getElem_cons h]
   by_cases e:ld R[i]=c
   ·have hb:bad c (R[i] :: R.drop (i+1))=true:=by
     simp only [bad,List.any_cons,decide_eq_true (show ld R[i]=c∧c<R[i].length from ⟨e,hcx⟩),Bool.true_or]
    simp only [if_pos (show (ld R[i]:Int)=(c:Int) by omega),hb]
    exact Ev.now _
   ·have hb:bad c (R[i] :: R.drop (i+1))=bad c (R.drop (i+1)):=by
     simp only [bad,List.any_cons,decide_eq_false (show ¬(ld R[i]=c∧c<R[i].length) from fun h=>e h.1),Bool.false_or]
    rw [hb]
    simp only [if_neg (show ¬(ld R[i]:Int)=(c:Int) by omega)]
    exact ih (i+1) (by omega) (by omega)
theorem bad_iff (c:Nat) (R:List (List Int)):bad c R=true↔∃x∈R,ld x=c∧c<x.length:=by
 unfold bad
 simp only [List.any_eq_true,decide_eq_true_eq]
structure Solved (m : List (List Int)) (v : List Int) (n : Nat) (P : List (List Int × Nat)) (Q : List (List Int)) : Prop where
 okm : Okm m n n
 oka : Okm (aug m v) n (n + 1)
 red : Red (RowSp (aug m v)) n P Q
 lenP : ∀ p ∈ P, p.1.length = n + 1
 lenQ : ∀ q ∈ Q, q.length = n + 1
 zero : ∀ q ∈ Q, ∀ j, at0 q j = 0
 cnt : P.length + Q.length = m.length
theorem solved_both (m:List (List Int)) (v:List Int) (c:Int) (hm:m.length≤16777216) (hr:∀x∈m,x.length≤16777216) (hv:v.length≤16777216):∃(ok:Bool) (R:List (List Int)),Ev (fun k=>impl_solved.f k m v c) (R,ok)∧Ev (fun k=>spec_IsSolvable.f k m v c) ok∧R.length≤1000∧(∀x∈R,x.length≤1000)∧
  (ok=false→R=[])∧(ok=true→isSys m v c=true∧∃(n:Nat) (P:List (List Int × Nat)) (Q:List (List Int)),c=(n:Int)∧Solved m v n P Q∧R=(P.map (·.1)).reverse∧Ev (fun k=>spec_l6Rows.f k m v c) ((P.map (·.1)).reverse ++ Q)):=by
 have hsi:=implSys_ev m v hm hr hv c
 have hss:=specSys_ev m v hm hr hv c
 cases hb:isSys m v c with
|false=>
  rw [hb] at hsi hss
  refine ⟨false,[],?_,?_,by simp,by simp,by simp,by simp⟩
  ·unfold impl_solved.f
   refine Ev.bind hsi ?_
   simp only [Bool.false_eq_true,if_false]
   exact Ev.now _
  ·unfold spec_IsSolvable.f
   refine Ev.bind hss ?_
   simp only [Bool.false_eq_true,if_false]
   exact Ev.now _
|true=>
  rw [hb] at hsi hss
  obtain ⟨hmat,hvl,hvs⟩:=(isSys_iff m v c).1 hb
  obtain ⟨n,rfl,hok,hm12⟩:=okm_of_isMat hmat
  have h1:=hok.pos;have h3:=hok.le6
  have hoa:=okm_aug hok hvl hvs
  obtain ⟨P,Q,hR,hP,hQ,hevI⟩:=implRed hoa
  obtain ⟨P2,Q2,hR2,hP2,hQ2,hl2,hevS⟩:=specRed hoa (cols:=n) (Nat.le_refl _) (by omega)
  have hPl:=hR.len
  have hP2l:=hR2.len
  have hal:=aug_len m v hvl
  have hI:Ev (fun k=>impl_solved.f k m v (n:Int)) (if bad n (P.map (·.1)).reverse then ([],false) else ((P.map (·.1)).reverse,true)):=by
   unfold impl_solved.f
   refine Ev.bind hsi ?_
   simp only [if_true]
   refine solvedI_l0 m v n _ hvl hok.rows hr ?_ m.length 0 (by omega) (by omega)
   rw [wrap_id (by omega) (by omega)]
   refine Ev.bind hevI ?_
   exact solvedI_l1 _ n (by simp;omega) (fun x hx=>by
    obtain ⟨p,hp,rfl⟩:=List.mem_map.1 (List.mem_reverse.1 hx)
    rw [hP p hp];omega) _ 0 rfl (by omega)
  have hS6:Ev (fun k=>spec_l6Rows.f k m v (n:Int)) ((P2.map (·.1)).reverse ++ Q2):=by
   unfold spec_l6Rows.f
   exact l6Rows_l0 m v n _ hvl hok.rows hr hevS m.length 0 (by omega) (by omega)
  have hlen2:∀x∈(P2.map (·.1)).reverse ++ Q2,x.length=n+1:=fun x hx=>by
   rcases List.mem_append.1 hx with h|h
   ·obtain ⟨p,hp,rfl⟩:=List.mem_map.1 (List.mem_reverse.1 h)
    exact hP2 p hp
   ·exact hQ2 x h
  have hS:Ev (fun k=>spec_IsSolvable.f k m v (n:Int)) (!bad n ((P2.map (·.1)).reverse ++ Q2)):=by
   unfold spec_IsSolvable.f
   refine Ev.bind hss ?_
   simp only [if_true]
   refine Ev.bind hS6 ?_
   refine Ev.bind ?_ (Ev.now _)
   exact l6Good_l0 _ n (by simp;omega) (fun x hx=>by rw [hlen2 x hx];omega) (fun x hx=>by rw [hlen2 x hx];omega) _ 0 rfl (by omega)
  have hb1:bad n (P.map (·.1)).reverse=true↔∃w,Sp (RowSp (aug m v)) w∧(∀j,j<n→w j=0)∧w n≠0:=by
   rw [bad_iff]
   constructor
   ·rintro ⟨x,hx,hld,hlt⟩
    obtain ⟨p,hp,rfl⟩:=List.mem_map.1 (List.mem_reverse.1 hx)
    have hne:=ld_ne p.1 (by omega)
    rw [hld] at hne
    exact ⟨at0 p.1,hR.st.inP p hp,fun j hj=>ld_low p.1 j (by omega),hne⟩
   ·rintro ⟨w,hw,h0,hne⟩
    have hk:=hR.piv_of (k:=n) (by omega) hw h0 hne
    obtain ⟨p,hp,e⟩:=List.mem_map.1 hk
    refine ⟨p.1,by simp;exact ⟨_,hp⟩,?_,by rw [hP p hp];omega⟩
    rw [← e]
    exact ld_eq p.1 p.2 (hR.lead p hp) (by have:=hR.pos p hp;omega)
  have hb2:bad n ((P2.map (·.1)).reverse ++ Q2)=true↔∃q∈Q2,at0 q n≠0:=by
   rw [bad_iff]
   constructor
   ·rintro ⟨x,hx,hld,hlt⟩
    have hne:=ld_ne x (by omega)
    rw [hld] at hne
    rcases List.mem_append.1 hx with h|h
    ·obtain ⟨p,hp,rfl⟩:=List.mem_map.1 (List.mem_reverse.1 h)
     have h4:=ld_eq p.1 p.2 (hR2.lead p hp) (by have:=hR2.pos p hp;omega)
     have h5:=hR2.ncol p hp
     omega
    ·exact ⟨x,h,hne⟩
   ·rintro ⟨q,hq,hne⟩
    exact ⟨q,List.mem_append_right _ hq,ld_eq q n (fun j hj=>hR2.low q hq j hj) hne,by rw [hQ2 q hq];omega⟩
  have hb12:bad n (P.map (·.1)).reverse=bad n ((P2.map (·.1)).reverse ++ Q2):=by
   rw [Bool.eq_iff_iff,hb1,hb2]
   constructor
   ·rintro ⟨w,hw,h0,hne⟩
    refine Classical.byContradiction fun hno=>hne ?_
    have hz:∀q∈Q2,∀j,at0 q j=0:=fun q hq j=>by
     rcases Nat.lt_trichotomy j n with h|h|h
     ·exact hR2.low q hq j h
     ·subst h
      exact Classical.byContradiction fun h=>hno ⟨q,hq,h⟩
     ·exact at0_out (by rw [hQ2 q hq];omega)
    exact zero_of_piv hR2.st.piv (hR2.span hz hw) (fun p hp=>h0 _ (hR2.ncol p hp)) n
   ·rintro ⟨q,hq,hne⟩
    exact ⟨at0 q,hR2.st.inQ q hq,fun j hj=>hR2.low q hq j hj,hne⟩
  cases hbb:bad n ((P2.map (·.1)).reverse ++ Q2) with
 |true=>
   rw [hb12,hbb] at hI
   simp only [if_true] at hI
   rw [hbb] at hS
   exact ⟨false,[],hI,hS,by simp,by simp,by simp,by simp⟩
 |false=>
   rw [hb12,hbb] at hI
   simp only [Bool.false_eq_true,if_false] at hI
   rw [hbb] at hS
   have hz2:∀q∈Q2,∀j,at0 q j=0:=fun q hq j=>by
    rcases Nat.lt_trichotomy j n with h|h|h
    ·exact hR2.low q hq j h
    ·subst h
     refine Classical.byContradiction fun h=>?_
     have:=hb2.2 ⟨q,hq,h⟩
     rw [hbb] at this
     cases this
    ·exact at0_out (by rw [hQ2 q hq];omega)
   have heq:P2=P:=(hR2.skip fun q hq=>hz2 q hq n).eq hz2 hR (fun v=>Iff.rfl) hP2 hP
   subst heq
   refine ⟨true,(P2.map (·.1)).reverse,hI,hS,by simp;omega,fun x hx=>?_,by simp,fun _=>⟨rfl,n,P2,Q2,rfl,⟨hok,hoa,hR2,hP2,hQ2,hz2,by omega⟩,rfl,hS6⟩⟩
   obtain ⟨p,hp,rfl⟩:=List.mem_map.1 (List.mem_reverse.1 hx)
   rw [hP2 p hp];omega
def bothB (m:List (List Int)) (row:List Int):Bool:=isMat m (row.length:Int) && isMat [row] (row.length:Int)
theorem okm_append {m:List (List Int)} {row:List Int} {n:Nat} (h:Okm m n n) (hm:m.length≤12) (hl:row.length=n) (hs:∀j,(at0 row j).natAbs≤bnd n j):Okm (m ++ [row]) n n:=
 ⟨h.pos,h.cols,h.le6,by simp;omega,fun r hr=>by
  rcases List.mem_append.1 hr with h'|h'
  ·exact h.len r h'
  ·rw [List.mem_singleton.1 h'];exact hl,fun r hr j=>by
  rcases List.mem_append.1 hr with h'|h'
  ·exact h.small r h' j
  ·rw [List.mem_singleton.1 h'];exact hs j⟩
theorem sp_sub {m:List (List Int)} (row:List Int) {v:V} (h:Sp (RowSp m) v):Sp (RowSp (m ++ [row])) v:=h.mono fun v ⟨r,hr,e⟩=>⟨r,List.mem_append_left _ hr,e⟩
theorem sp_sup {m:List (List Int)} {row:List Int} (hrow:Sp (RowSp m) (at0 row)) {v:V} (h:Sp (RowSp (m ++ [row])) v):Sp (RowSp m) v:=h.trans fun v ⟨r,hr,e⟩=>by
 rcases List.mem_append.1 hr with h'|h'
 ·exact Sp.of ⟨r,h',e⟩
 ·rw [← e,List.mem_singleton.1 h'];exact hrow
theorem sorted_sub:∀(l l':List Nat),l.Pairwise (· > ·)→l'.Pairwise (· > ·)→(∀k∈l,k∈l')→l'.length≤l.length→l=l'
 | [],l',_,_,_,h=>(List.eq_nil_of_length_eq_zero (by simpa using h)).symm
 | a :: l,[],_,_,h,_=>absurd (h a (by simp)) (by simp)
 | a :: l,b :: l',h1,h2,h,hl=>by
  have h1':=List.pairwise_cons.1 h1
  have h2':=List.pairwise_cons.1 h2
  have hnod:(a :: l).Nodup:=h1.imp fun h=>by omega
  by_cases e:a=b
  ·subst e
   rw [sorted_sub l l' h1'.2 h2'.2 (fun k hk=>by
    rcases List.mem_cons.1 (h k (by simp [hk])) with e|h
    ·have:=h1'.1 k hk;omega
    ·exact h) (by simpa using hl)]
  ·exfalso
   have ha:a∈l':=by
    rcases List.mem_cons.1 (h a (by simp)) with e'|h'
    ·exact absurd e' e
    ·exact h'
   have hab:=h2'.1 a ha
   have hall:∀k∈a :: l,k∈l':=fun k hk=>by
    rcases List.mem_cons.1 (h k hk) with e'|h'
    ·rcases List.mem_cons.1 hk with e2|h2
     ·omega
     ·have:=h1'.1 k h2;omega
    ·exact h'
   have:=hnod.length_le_of_subset (l₂:=l') hall
   simp only [List.length_cons] at this hl
   omega
theorem sp_of_res {S:V→Prop} {P:List (List Int × Nat)} {L:Int} (hL:L≠0) (hP:∀p∈P,Sp S (at0 p.1)) {v:V} (h:∀j,res L P v j=0):Sp S v:=by
 refine Sp.div L hL ((sumOver_mem S P (fun p=>L / at0 p.1 p.2*v p.2) hP).congr fun j=>?_)
 have:=h j
 unfold res at this
 omega
theorem span_iff {m:List (List Int)} {row:List Int} {n:Nat} {P P2:List (List Int × Nat)} {Q Q2:List (List Int)} (h:Red (RowSp m) n P Q) (h2:Red (RowSp (m ++ [row])) n P2 Q2) (hz2:∀q∈Q2,∀j,at0 q j=0) :
  P.length=P2.length↔Sp (RowSp m) (at0 row):=by
 constructor
 ·intro hl
  have hc:P.map (·.2)=P2.map (·.2):=sorted_sub _ _ h.sorted h2.sorted (fun k hk=>by
   obtain ⟨hkn,v,hv,hh⟩:=(h.mem_iff k).1 hk
   exact (h2.mem_iff k).2 ⟨hkn,v,sp_sub row hv,hh⟩) (by simp [hl])
  refine sp_of_res (P:=P) (common_ne h.st.piv.2.1) h.st.inP fun j=>?_
  have hmem:Sp (RowSp (m ++ [row])) (res (common P) P (at0 row)):=res_mem _ (Sp.of ⟨row,by simp,rfl⟩) fun p hp=>sp_sub row (h.st.inP p hp)
  refine zero_of_piv h2.st.piv (h2.span hz2 hmem) (fun p2 hp2=>?_) j
  have:p2.2∈P.map (·.2):=by rw [hc];exact List.mem_map_of_mem hp2
  obtain ⟨p,hp,e⟩:=List.mem_map.1 this
  rw [← e]
  exact res_piv h.st.piv (common P) dvd_common (at0 row) p hp
 ·intro hs
  have:=h.cols h2 fun v=>⟨sp_sub row,sp_sup hs⟩
  have:=congrArg List.length this
  simpa using this
theorem implSpan_j0 {m:List (List Int)} {row:List Int} {n:Nat} (hm:Okm m n n) (hm12:m.length≤12) (hl:row.length=n) (hs:∀j,(at0 row j).natAbs≤bnd n j):∃b:Bool,Ev (fun k=>impl_IsInSpan.j0 k m row (n:Int) false) b∧(b=true↔Sp (RowSp m) (at0 row)):=by
 obtain ⟨P,Q,hR,hP,hQ,hev⟩:=implRed hm
 obtain ⟨P2,Q2,hR2,hP2,hQ2,hev2⟩:=implRed (okm_append hm hm12 hl hs)
 refine ⟨((P.map (·.1)).reverse.length:Int) == ((P2.map (·.1)).reverse.length:Int),?_,?_⟩
 ·refine Ev.step (f:=fun k=>(impl_reduceAny.f k m (n:Int)).bind fun t=>(impl_reduceAny.f k (m ++ [row]) (n:Int)).bind fun u=>some ((t.length:Int) == (u.length:Int))) (fun k=>?_) (Ev.bind hev (Ev.bind hev2 (Ev.now _)))
  have hc:slices_Clone_int_int_78.f m=some m:=by
   unfold slices_Clone_int_int_78.f
   simp only [Option.bind_some,List.length_nil,List.nil_append,Nat.zero_add]
   rw [if_pos (by omega)]
  simp only [impl_IsInSpan.j0]
  rw [if_neg (by decide),hc]
  simp only [Option.bind_some,if_pos (show m.length<5864062014805 by omega)]
 ·rw [beq_iff_eq,← span_iff hR hR2 (red_rest hR2 (Nat.le_refl _) hQ2)]
  simp only [List.length_reverse,List.length_map]
  omega
theorem implSpan_ev (m:List (List Int)) (row:List Int) (hm:m.length≤16777216) (hr:∀x∈m,x.length≤16777216) (hl:row.length≤16777216):∃b:Bool,Ev (fun k=>impl_IsInSpan.f k m row) b∧
  (bothB m row=true→(b=true↔Sp (RowSp m) (at0 row)))∧(bothB m row=false→b=false):=by
 have h1:=implMat_ev m hm hr (row.length:Int)
 have h2:=implMat_ev [row] (by simp) (fun x hx=>by rw [List.mem_singleton.1 hx];exact hl) (row.length:Int)
 have hj:Ev (fun k=>impl_IsInSpan.j0 k m row (row.length:Int) true) false:=Ev.step (f:=fun _=>some false) (fun k=>by simp only [impl_IsInSpan.j0];rw [if_pos trivial]) (Ev.now _)
 cases hb:isMat m (row.length:Int) with
|false=>
  rw [hb] at h1
  refine ⟨false,?_,by simp [bothB,hb],by simp⟩
  unfold impl_IsInSpan.f
  refine Ev.bind h1 ?_
  simp only [Bool.false_eq_true,if_false]
  exact hj
|true=>
  rw [hb] at h1
  cases hb2:isMat [row] (row.length:Int) with
 |false=>
   rw [hb2] at h2
   refine ⟨false,?_,by simp [bothB,hb2],by simp⟩
   unfold impl_IsInSpan.f
   refine Ev.bind h1 ?_
   simp only [if_true]
   refine Ev.bind h2 ?_
   simp only [Bool.not_false]
   exact hj
 |true=>
   rw [hb2] at h2
   obtain ⟨n,hn,hok,hm12⟩:=okm_of_isMat hb
   obtain ⟨n2,hn2,hok2,_⟩:=okm_of_isMat hb2
   have e1:row.length=n:=by omega
   have e2:n2=n:=by omega
   subst e2
   obtain ⟨b,hbe,hbi⟩:=implSpan_j0 hok hm12 e1 (hok2.small row (by simp))
   refine ⟨b,?_,fun _=>hbi,by simp [bothB,hb,hb2]⟩
   unfold impl_IsInSpan.f
   refine Ev.bind h1 ?_
   simp only [if_true]
   refine Ev.bind h2 ?_
   simp only [Bool.not_true]
   rw [e1]
   exact hbe
theorem sum_small (g:List Int × Nat→Int) (B:Nat):∀l:List (List Int × Nat),(∀p∈l,(g p).natAbs≤B)→(sumOver g l).natAbs≤l.length*B
 | [],_=>by simp [sumOver]
 | p :: l,h=>by
  have h1:=h p (by simp)
  have h2:=sum_small g B l fun q hq=>h q (by simp [hq])
  simp only [sumOver,List.length_cons,Nat.add_mul,Nat.one_mul]
  omega
structure SpanInv (D : Int) (row : List Int) (B : List (List Int × Nat)) (n : Nat) (x : List Int) : Prop where
 len : x.length = n
 small : ∀ j, (at0 x j).natAbs ≤ 645120
 prop : ∃ a b : Int, a ≠ 0 ∧ b ≠ 0 ∧ ∀ j, a * at0 x j = b * res D B (at0 row) j
def redOf (n d:Int):Int × Int × Bool:=
 if isR (Int.tdiv n (if d<0 then -((Int.gcd n d:Nat):Int) else ((Int.gcd n d:Nat):Int))) (Int.tdiv d (if d<0 then -((Int.gcd n d:Nat):Int) else ((Int.gcd n d:Nat):Int)))=true then
  (Int.tdiv n (if d<0 then -((Int.gcd n d:Nat):Int) else ((Int.gcd n d:Nat):Int)),Int.tdiv d (if d<0 then -((Int.gcd n d:Nat):Int) else ((Int.gcd n d:Nat):Int)),true)
 else (0,0,false)
theorem tdiv_le (n g:Int):(Int.tdiv n g).natAbs≤n.natAbs:=by
 rw [Int.natAbs_tdiv]
 exact Nat.div_le_self _ _
theorem gcd_small (n d:Int) (hd:d≠0) (hd0:-9223372036854775808<d) (hd1:d<9223372036854775808):0<((Int.gcd n d:Nat):Int)∧((Int.gcd n d:Nat):Int)<9223372036854775808:=by
 have h1:0<Int.gcd n d:=by
  rcases Nat.eq_zero_or_pos (Int.gcd n d) with h|h
  ·exact absurd (Int.gcd_eq_zero_iff.1 h).2 hd
  ·exact h
 have h2:Int.gcd n d≤d.natAbs:=Nat.le_of_dvd (by omega) (by
  have:=Int.gcd_dvd_right n d
  exact Int.natAbs_dvd_natAbs.2 this)
 omega
theorem redI_ev (n d:Int) (hd:d≠0) (hn0:-9223372036854775808<n) (hn1:n<9223372036854775808) (hd0:-9223372036854775808<d) (hd1:d<9223372036854775808):Ev (fun k=>impl_reduced.f k n d) (redOf n d):=by
 have hg:=gcd_small n d hd hd0 hd1
 unfold impl_reduced.f redOf
 refine Ev.bind (gcdI_ev n d hn0 hn1 hd0 hd1) ?_
 by_cases c:d<0
 ·simp only [if_pos c]
  have b1:=tdiv_le n (-((Int.gcd n d:Nat):Int))
  have b2:=tdiv_le d (-((Int.gcd n d:Nat):Int))
  have e1:wrap64 (-((Int.gcd n d:Nat):Int)) = -((Int.gcd n d:Nat):Int):=wrap_id (by omega) (by omega)
  have e2:wrap64 (Int.tdiv n (-((Int.gcd n d:Nat):Int)))=Int.tdiv n (-((Int.gcd n d:Nat):Int)):=wrap_id (by omega) (by omega)
  have e3:wrap64 (Int.tdiv d (-((Int.gcd n d:Nat):Int)))=Int.tdiv d (-((Int.gcd n d:Nat):Int)):=wrap_id (by omega) (by omega)
  simp only [e1,e2,e3,if_neg (show ¬(-((Int.gcd n d:Nat):Int)=0) by omega)]
  refine Ev.bind (isRI_ev _ _) ?_
  split<;>exact Ev.now _
 ·simp only [if_neg c]
  have b1:=tdiv_le n ((Int.gcd n d:Nat):Int)
  have b2:=tdiv_le d ((Int.gcd n d:Nat):Int)
  have e2:wrap64 (Int.tdiv n ((Int.gcd n d:Nat):Int))=Int.tdiv n ((Int.gcd n d:Nat):Int):=wrap_id (by omega) (by omega)
  have e3:wrap64 (Int.tdiv d ((Int.gcd n d:Nat):Int))=Int.tdiv d ((Int.gcd n d:Nat):Int):=wrap_id (by omega) (by omega)
  simp only [e2,e3,if_neg (show ¬(((Int.gcd n d:Nat):Int)=0) by omega)]
  refine Ev.bind (isRI_ev _ _) ?_
  split<;>exact Ev.now _
theorem makeS_j0 (n d:Int) (hd:0<d) (hn0:-9223372036854775808<n) (hn1:n<9223372036854775808) (hd1:d<9223372036854775808):Ev (fun k=>spec_l4Make.j0 k n d) (redOf n d):=by
 have hg:=gcd_small n d (by omega) (by omega) hd1
 refine Ev.step (fun k=>spec_l4Make.j0.eq_2 _ _ _) ?_
 unfold redOf
 refine Ev.bind (gcdS_ev n d hn0 hn1 (by omega) hd1) ?_
 have b1:=tdiv_le n ((Int.gcd n d:Nat):Int)
 have b2:=tdiv_le d ((Int.gcd n d:Nat):Int)
 have e2:wrap64 (Int.tdiv n ((Int.gcd n d:Nat):Int))=Int.tdiv n ((Int.gcd n d:Nat):Int):=wrap_id (by omega) (by omega)
 have e3:wrap64 (Int.tdiv d ((Int.gcd n d:Nat):Int))=Int.tdiv d ((Int.gcd n d:Nat):Int):=wrap_id (by omega) (by omega)
 simp only [e2,e3,if_neg (show ¬(d<0) by omega),if_neg (show ¬(((Int.gcd n d:Nat):Int)=0) by omega)]
 refine Ev.bind (isRS_ev _ _) ?_
 split<;>exact Ev.now _
theorem redOf_neg (n d:Int) (hd:d<0):redOf (-n) (-d)=redOf n d:=by
 unfold redOf
 simp only [Int.gcd_neg,Int.neg_gcd,if_pos hd,if_neg (show ¬(-d<0) by omega),Int.neg_tdiv,Int.tdiv_neg]
theorem makeS_ev (n d:Int) (hd:d≠0) (hn0:-9223372036854775808<n) (hn1:n<9223372036854775808) (hd0:-9223372036854775808<d) (hd1:d<9223372036854775808):Ev (fun k=>spec_l4Make.f k n d) (redOf n d):=by
 unfold spec_l4Make.f
 simp only [if_neg hd]
 by_cases c:d<0
 ·simp only [if_pos c]
  rw [wrap_id (by omega) (by omega),wrap_id (by omega) (by omega),← redOf_neg n d c]
  exact makeS_j0 (-n) (-d) (by omega) (by omega) (by omega) (by omega)
 ·simp only [if_neg c]
  exact makeS_j0 n d (by omega) hn0 hn1 hd1
theorem redOf_eq (n d x y:Int) (hd:d≠0) (h:redOf n d=(x,y,true)):isR x y=true∧x*d=n*y:=by
 unfold redOf at h
 have hg0:((Int.gcd n d:Nat):Int)≠0:=fun h=>hd (Int.gcd_eq_zero_iff.1 (show Int.gcd n d=0 by omega)).2
 have k1:=Int.gcd_dvd_left n d
 have k2:=Int.gcd_dvd_right n d
 obtain ⟨G,hG,hG0,d1,d2⟩:∃G,(if d<0 then -((Int.gcd n d:Nat):Int) else ((Int.gcd n d:Nat):Int))=G∧G≠0∧G∣n∧G∣d:=by
  refine ⟨_,rfl,?_,?_,?_⟩
  ·split<;>omega
  ·split
   ·exact Int.neg_dvd.2 k1
   ·exact k1
  ·split
   ·exact Int.neg_dvd.2 k2
   ·exact k2
 rw [hG] at h
 obtain ⟨u,rfl⟩:=d1
 obtain ⟨v,rfl⟩:=d2
 rw [Int.mul_tdiv_cancel_left _ hG0,Int.mul_tdiv_cancel_left _ hG0] at h
 by_cases c:isR u v=true
 ·rw [if_pos c] at h
  simp only [Prod.mk.injEq,and_true] at h
  obtain ⟨rfl,rfl⟩:=h
  exact ⟨c,by rw [← Int.mul_assoc,Int.mul_comm u G]⟩
 ·rw [if_neg c] at h
  simp at h
theorem redOf_of (n d a b:Int) (hd:d≠0) (h:isR a b=true) (e:n*b=a*d):redOf n d=(a,b,true):=by
 have hv:=(isR_iff a b).1 h
 have hb:b∣a*d:=⟨n,by rw [← e,Int.mul_comm]⟩
 have hg:Int.gcd b a=1:=by
  have:=hv.2.2
  rw [Int.gcd_comm]
  omega
 have hdv:b∣d:=by
  refine Int.natAbs_dvd_natAbs.1 (Nat.Coprime.dvd_of_dvd_mul_left (m:=a.natAbs) hg ?_)
  rw [← Int.natAbs_mul]
  exact Int.natAbs_dvd_natAbs.2 hb
 obtain ⟨t,rfl⟩:=hdv
 have ht:t≠0:=fun h=>hd (by rw [h,Int.mul_zero])
 have hn:n=a*t:=by
  have e2:b*n=b*(a*t):=by
   rw [Int.mul_comm b n,e,← Int.mul_assoc,← Int.mul_assoc,Int.mul_comm a b]
  exact Int.eq_of_mul_eq_mul_left (by omega) e2
 subst hn
 unfold redOf
 have g1:((Int.gcd (a*t) (b*t):Nat):Int)=((t.natAbs:Nat):Int):=by
  rw [Int.gcd_mul_right]
  have:=hv.2.2
  have:Int.gcd a b=1:=by omega
  rw [this,Nat.one_mul]
 have g2:(if b*t<0 then -((Int.gcd (a*t) (b*t):Nat):Int) else ((Int.gcd (a*t) (b*t):Nat):Int))=t:=by
  rw [g1]
  by_cases c:t<0
  ·rw [if_pos (Int.mul_neg_of_pos_of_neg (by omega) c)]
   omega
  ·have:0≤b*t:=Int.mul_nonneg (by omega) (by omega)
   rw [if_neg (by omega)]
   omega
 rw [g2,Int.mul_tdiv_cancel _ ht,Int.mul_tdiv_cancel _ ht,if_pos h]
theorem redOf_small (n d:Int) (hd:0<d) (hd1:d≤1000000000) (hn:n.natAbs≤1000000000):∃a b,redOf n d=(a,b,true)∧isR a b=true∧n*b=a*d:=by
 have hG:0<Int.gcd n d:=by
  rcases Nat.eq_zero_or_pos (Int.gcd n d) with h|h
  ·have:=(Int.gcd_eq_zero_iff.1 h).2
   omega
  ·exact h
 obtain ⟨u,hu⟩:=Int.gcd_dvd_left n d
 obtain ⟨v,hv⟩:=Int.gcd_dvd_right n d
 generalize hg:Int.gcd n d=G at hG hu hv
 have h1:Int.gcd u v=1:=by
  have h2:Int.gcd ((G:Int)*u) ((G:Int)*v)=G*Int.gcd u v:=by
   rw [Int.gcd_mul_left]
   simp
  rw [← hu,← hv,hg] at h2
  have h3:G*Int.gcd u v=G*1:=by omega
  exact Nat.eq_of_mul_eq_mul_left hG h3
 have hv0:0<v:=by
  rcases Int.lt_or_le 0 v with h|h
  ·exact h
  ·have:(G:Int)*v≤0:=Int.mul_nonpos_of_nonneg_of_nonpos (by omega) h
   omega
 have hv1:v≤d:=by
  have:1*v≤(G:Int)*v:=Int.mul_le_mul_of_nonneg_right (by omega) (by omega)
  omega
 have hu1:u.natAbs≤n.natAbs:=by
  have h2:n.natAbs=G*u.natAbs:=by rw [hu,Int.natAbs_mul];simp
  rw [h2]
  exact Nat.le_mul_of_pos_left _ hG
 have hR:isR u v=true:=(isR_iff u v).2 ⟨by omega,by omega,by omega⟩
 have he:n*v=u*d:=by
  rw [hu,hv,Int.mul_comm (G:Int) u,Int.mul_assoc]
 exact ⟨u,v,redOf_of n d u v (by omega) hR he,hR,he⟩
structure PivOk (n : Nat) (p : List Int × Nat) : Prop where
 len : p.1.length = n + 1
 col : p.2 < n
 ld : ld p.1 = p.2
 pos : 0 < at0 p.1 p.2
 le : at0 p.1 p.2 ≤ 46080
 val : (at0 p.1 n).natAbs ≤ 23040000
theorem Solved.pivok {m:List (List Int)} {v:List Int} {n:Nat} {P:List (List Int × Nat)} {Q:List (List Int)} (h:Solved m v n P Q):∀p∈P,PivOk n p:=by
 intro p hp
 obtain ⟨D,h0,h1,hh⟩:=h.red.small_piv (m:=n) (fun o ho j=>by
  obtain ⟨r,hr,rfl⟩:=ho
  exact h.oka.small r hr j) (Nat.le_refl _) h.okm.le6
 obtain ⟨e,he,hD,hj,hj2⟩:=hh p hp
 have hpos:=h.red.pos p hp
 refine ⟨h.lenP p hp,h.red.ncol p hp,ld_eq p.1 p.2 (h.red.lead p hp) (by omega),hpos,?_,?_⟩
 ·have:at0 p.1 p.2*1≤at0 p.1 p.2*e:=Int.mul_le_mul_of_nonneg_left (by omega) (by omega)
  omega
 ·have h2:=hj2 n
  rw [Int.natAbs_mul] at h2
  have h3:1*(at0 p.1 n).natAbs≤e.natAbs*(at0 p.1 n).natAbs:=Nat.mul_le_mul_right _ (by omega)
  omega
def fr (n:Nat) (p:List Int × Nat):S26:=⟨(redOf (at0 p.1 n) (at0 p.1 p.2)).1,(redOf (at0 p.1 n) (at0 p.1 p.2)).2.1⟩
def solStep (n:Nat) (out:List S26) (p:List Int × Nat):List S26:=out.set p.2 (fr n p)
def solOf (n:Nat) (L:List (List Int × Nat)):List S26:=L.foldl (solStep n) (List.replicate n ⟨0,1⟩)
theorem solStep_len (n:Nat):∀(L:List (List Int × Nat)) (out:List S26),(L.foldl (solStep n) out).length=out.length
 | [],_=>rfl
 | p :: L,out=>by
  rw [List.foldl_cons,solStep_len n L]
  simp [solStep]
theorem fr_eq {n:Nat} {p:List Int × Nat} (h:PivOk n p):∃a b,redOf (at0 p.1 n) (at0 p.1 p.2)=(a,b,true)∧fr n p=⟨a,b⟩∧isR a b=true∧at0 p.1 n*b=a*at0 p.1 p.2:=by
 have h1:=h.pos;have h2:=h.le;have h3:=h.val
 obtain ⟨a,b,e,hR,he⟩:=redOf_small (at0 p.1 n) (at0 p.1 p.2) h1 (by omega) (by omega)
 refine ⟨a,b,e,?_,hR,he⟩
 unfold fr
 rw [e]
theorem rd_at0 (r:List Int) (j:Nat) (h:j<r.length):rd r (j:Int)=at0 r j:=by
 rw [rd_nat r j h,at0_lt h]
theorem solI_l1 (n:Nat) (L:List (List Int × Nat)) (hL:∀p∈L,PivOk n p) (hn:n≤1000) (hl:L.length≤1000) (d:Nat):∀(i:Nat) (out:List S26),L.length-i=d→i≤L.length→out.length=n→Ev (fun k=>impl_SolutionOf.l1 k (n:Int) out (L.map (·.1)) (L.length:Int) (i:Int)) ((L.drop i).foldl (solStep n) out,true):=by
 induction d with
|zero=>
  intro i out hd hi ho
  rw [List.drop_eq_nil_of_le (by omega)]
  refine Ev.step (f:=fun _=>some (out,true)) (fun k=>?_) (Ev.now _)
  simp only [impl_SolutionOf.l1]
  rw [if_neg (by omega)]
|succ d ih=>
  intro i out hd hi ho
  have h:i<L.length:=by omega
  have hp:=hL _ (List.getElem_mem h)
  obtain ⟨a,b,he,hf,hR,_⟩:=fr_eq hp
  have h1:=hp.len;have h2:=hp.col;have h3:=hp.ld;have h4:=hp.pos;have h5:=hp.le;have h6:=hp.val
  have hlead:=leadI_ev L[i].1 (by omega)
  rw [if_pos (by omega),h3] at hlead
  have hred:=redI_ev (at0 L[i].1 n) (at0 L[i].1 L[i].2) (by omega) (by omega) (by omega) (by omega) (by omega)
  rw [he] at hred
  have hrow:rd_L1 (L.map (·.1)) (i:Int)=L[i].1:=by
   rw [rdL_nat _ i (by simpa using h)]
   simp
  rw [List.drop_eq_getElem_cons h,List.foldl_cons]
  refine Ev.step (f:=fun k=>(impl_lead.f k L[i].1).bind fun t=>if 0≤(n:Int) then (if (n:Int)<(L[i].1.length:Int) then (if 0≤t then (if t<(L[i].1.length:Int) then ((impl_reduced.f k (rd L[i].1 (n:Int)) (rd L[i].1 t)).bind fun bt=>if t<(out.length:Int) then (if bt.2.2=true then impl_SolutionOf.l1 k (n:Int) (out.set t.toNat ⟨bt.1,bt.2.1⟩) (L.map (·.1)) (L.length:Int) ((i+1:Nat):Int) else some ([],false)) else none) else none) else none) else none) else none) (fun k=>?_) (Ev.bind hlead ?_)
  ·simp only [impl_SolutionOf.l1]
   rw [if_pos (by omega),if_pos (by omega),if_pos (by simpa using h),hrow,wrap_id (by omega) (by omega)]
   rfl
  ·simp only [if_pos (show (0:Int)≤(n:Int) by omega),if_pos (show (n:Int)<(L[i].1.length:Int) by omega),if_pos (show (0:Int)≤(L[i].2:Int) by omega),if_pos (show (L[i].2:Int)<(L[i].1.length:Int) by omega),rd_at0 L[i].1 n (by omega),rd_at0 L[i].1 L[i].2 (by omega)]
   refine Ev.bind hred ?_
   simp only [if_pos (show (L[i].2:Int)<(out.length:Int) by omega),if_true,Int.toNat_natCast]
   have hs:solStep n out L[i]=out.set L[i].2 ⟨a,b⟩:=by unfold solStep;rw [hf]
   rw [hs]
   exact ih (i+1) _ (by omega) (by omega) (by simpa using ho)
theorem solS_l1 (n:Nat) (L:List (List Int × Nat)) (Q:List (List Int)) (hL:∀p∈L,PivOk n p) (hQ:∀q∈Q,q.length=n+1∧∀j,at0 q j=0) (hn:n≤1000) (hl:L.length+Q.length≤1000) (d:Nat):∀(i:Nat) (out:List S26),L.length+Q.length-i=d→i≤L.length+Q.length→out.length=n→Ev (fun k=>spec_SolutionOf.l1 k (n:Int) out (L.map (·.1) ++ Q) (i:Int)) ((L.drop i).foldl (solStep n) out,true):=by
 have hal:(L.map (·.1) ++ Q).length=L.length+Q.length:=by simp
 induction d with
|zero=>
  intro i out hd hi ho
  rw [List.drop_eq_nil_of_le (by omega)]
  refine Ev.step (f:=fun _=>some (out,true)) (fun k=>?_) (Ev.now _)
  simp only [spec_SolutionOf.l1]
  rw [if_neg (by omega)]
|succ d ih=>
  intro i out hd hi ho
  by_cases h:i<L.length
  ·have hp:=hL _ (List.getElem_mem h)
   obtain ⟨a,b,he,hf,hR,_⟩:=fr_eq hp
   have h1:=hp.len;have h2:=hp.col;have h3:=hp.ld;have h4:=hp.pos;have h5:=hp.le;have h6:=hp.val
   have hlead:=leadS_ev L[i].1 (by omega)
   rw [h3] at hlead
   have hred:=makeS_ev (at0 L[i].1 n) (at0 L[i].1 L[i].2) (by omega) (by omega) (by omega) (by omega) (by omega)
   rw [he] at hred
   have hrow:rd_L1 (L.map (·.1) ++ Q) (i:Int)=L[i].1:=by
    rw [rdL_nat _ i (by omega),List.getElem_append_left (by simpa using h)]
    simp
   rw [List.drop_eq_getElem_cons h,List.foldl_cons]
   refine Ev.step (f:=fun k=>(spec_l5Lead.f k L[i].1).bind fun t=>if t≥(n:Int) then spec_SolutionOf.l1 k (n:Int) out (L.map (·.1) ++ Q) ((i+1:Nat):Int) else if 0≤(n:Int) then (if (n:Int)<(L[i].1.length:Int) then (if 0≤t then (if t<(L[i].1.length:Int) then ((spec_l4Make.f k (rd L[i].1 (n:Int)) (rd L[i].1 t)).bind fun bt=>if bt.2.2=true then (if t<(out.length:Int) then spec_SolutionOf.l1 k (n:Int) (out.set t.toNat ⟨bt.1,bt.2.1⟩) (L.map (·.1) ++ Q) ((i+1:Nat):Int) else none) else some ([],false)) else none) else none) else none) else none) (fun k=>?_) (Ev.bind hlead ?_)
   ·simp only [spec_SolutionOf.l1]
    rw [if_pos (by omega),if_pos (by omega),hrow,wrap_id (by omega) (by omega)]
    rfl
   ·simp only [if_neg (show ¬(L[i].2:Int)≥(n:Int) by omega),if_pos (show (0:Int)≤(n:Int) by omega),if_pos (show (n:Int)<(L[i].1.length:Int) by omega),if_pos (show (0:Int)≤(L[i].2:Int) by omega),if_pos (show (L[i].2:Int)<(L[i].1.length:Int) by omega),rd_at0 L[i].1 n (by omega),rd_at0 L[i].1 L[i].2 (by omega)]
    refine Ev.bind hred ?_
    simp only [if_pos (show (L[i].2:Int)<(out.length:Int) by omega),if_true,Int.toNat_natCast]
    have hs:solStep n out L[i]=out.set L[i].2 ⟨a,b⟩:=by unfold solStep;rw [hf]
    rw [hs]
    exact ih (i+1) _ (by omega) (by omega) (by simpa using ho)
  ·have hi2:i-L.length<Q.length:=by omega
   have hq:=hQ _ (List.getElem_mem hi2)
   have hld:=ld_zero _ hq.2
   have hlead:=leadS_ev Q[i-L.length] (by omega)
   have hrow:rd_L1 (L.map (·.1) ++ Q) (i:Int)=Q[i-L.length]:=by
    rw [rdL_nat _ i (by omega),List.getElem_append_right (by simp;omega)]
    simp
   have hdn:L.drop (i+1)=L.drop i:=by rw [List.drop_eq_nil_of_le (by omega),List.drop_eq_nil_of_le (by omega)]
   have hih:=ih (i+1) out (by omega) (by omega) ho
   rw [hdn] at hih
   refine Ev.step (f:=fun k=>(spec_l5Lead.f k Q[i-L.length]).bind fun t=>if t≥(n:Int) then spec_SolutionOf.l1 k (n:Int) out (L.map (·.1) ++ Q) ((i+1:Nat):Int) else if 0≤(n:Int) then (if (n:Int)<(Q[i-L.length].length:Int) then (if 0≤t then (if t<(Q[i-L.length].length:Int) then ((spec_l4Make.f k (rd Q[i-L.length] (n:Int)) (rd Q[i-L.length] t)).bind fun bt=>if bt.2.2=true then (if t<(out.length:Int) then spec_SolutionOf.l1 k (n:Int) (out.set t.toNat ⟨bt.1,bt.2.1⟩) (L.map (·.1) ++ Q) ((i+1:Nat):Int) else none) else some ([],false)) else none) else none) else none) else none) (fun k=>?_) (Ev.bind hlead ?_)
   ·simp only [spec_SolutionOf.l1]
    rw [if_pos (by omega),if_pos (by omega),hrow,wrap_id (by omega) (by omega)]
    rfl
   ·simp only [if_pos (show (ld Q[i-L.length]:Int)≥(n:Int) by omega)]
    exact hih
theorem solI_l0 (n:Nat) (R:List (List Int)) (r:List S26 × Bool) (hn:n≤1000) (hend:Ev (fun k=>impl_SolutionOf.l1 k (n:Int) (List.replicate n ⟨0,1⟩) R (R.length:Int) 0) r) (d:Nat):∀(i:Nat) (out:List S26),n-i=d→i≤n→out.length=n→out.take i=List.replicate i ⟨0,1⟩→Ev (fun k=>impl_SolutionOf.l0 k (n:Int) R out (n:Int) (i:Int)) r:=by
 induction d with
|zero=>
  intro i out hd hi ho ht
  have e:out=List.replicate n ⟨0,1⟩:=by
   have e1:i=n:=by omega
   rw [e1,List.take_of_length_le (by omega)] at ht
   exact ht
  rw [e]
  refine Ev.step (fun k=>?_) hend
  simp only [impl_SolutionOf.l0]
  rw [if_neg (by omega)]
|succ d ih=>
  intro i out hd hi ho ht
  refine Ev.step (f:=fun k=>impl_SolutionOf.l0 k (n:Int) R (out.set i ⟨0,1⟩) (n:Int) ((i+1:Nat):Int)) (fun k=>?_) (ih (i+1) _ (by omega) (by omega) (by simpa using ho) ?_)
  ·simp only [impl_SolutionOf.l0]
   rw [if_pos (by omega),if_pos (by omega),if_pos (by omega),wrap_id (by omega) (by omega),Int.toNat_natCast]
   rfl
  ·rw [List.take_succ_eq_append_getElem (by simp;omega),List.take_set_of_le (Nat.le_refl _),ht,List.getElem_set_self,List.replicate_succ']
theorem solS_l0 (m:List (List Int)) (v:List Int) (n:Nat) (r:List S26 × Bool) (hn:n≤1000) (hend:Ev (fun k=>(spec_l6Rows.f k m v (n:Int)).bind fun t=>spec_SolutionOf.l1 k (n:Int) (List.replicate n ⟨0,1⟩) t 0) r) (d:Nat):∀(i:Nat),n-i=d→i≤n→Ev (fun k=>spec_SolutionOf.l0 k m v (n:Int) (List.replicate i ⟨0,1⟩) (i:Int)) r:=by
 induction d with
|zero=>
  intro i hd hi
  have e1:i=n:=by omega
  rw [e1]
  refine Ev.step (fun k=>?_) hend
  simp only [spec_SolutionOf.l0]
  rw [if_neg (by omega)]
|succ d ih=>
  intro i hd hi
  refine Ev.step (f:=fun k=>spec_SolutionOf.l0 k m v (n:Int) (List.replicate (i+1) ⟨0,1⟩) ((i+1:Nat):Int)) (fun k=>?_) (ih (i+1) (by omega) (by omega))
  simp only [spec_SolutionOf.l0]
  rw [if_pos (by omega),if_pos (by simp;omega),wrap_id (by omega) (by omega),List.replicate_succ']
  rfl
theorem sol_both (m:List (List Int)) (v:List Int) (c:Int) (hm:m.length≤16777216) (hr:∀x∈m,x.length≤16777216) (hv:v.length≤16777216):∃(ok:Bool) (S:List S26),Ev (fun k=>impl_SolutionOf.f k m v c) (S,ok)∧Ev (fun k=>spec_SolutionOf.f k m v c) (S,ok)∧S.length≤1000∧
  (ok=false→S=[]∧Ev (fun k=>impl_solved.f k m v c) ([],false))∧(ok=true→isSys m v c=true∧∃(n:Nat) (P:List (List Int × Nat)) (Q:List (List Int)),c=(n:Int)∧Solved m v n P Q∧S=solOf n P.reverse∧Ev (fun k=>impl_solved.f k m v c) ((P.map (·.1)).reverse,true)):=by
 obtain ⟨ok,R,hI,hS,hR1,hR2,hF,hT⟩:=solved_both m v c hm hr hv
 cases ok with
|false=>
  obtain rfl:=hF rfl
  refine ⟨false,[],?_,?_,by simp,fun _=>⟨rfl,hI⟩,by simp⟩
  ·unfold impl_SolutionOf.f
   refine Ev.bind hI ?_
   simp only [Bool.false_eq_true,if_false]
   exact Ev.now _
  ·unfold spec_SolutionOf.f
   refine Ev.bind hS ?_
   simp only [Bool.false_eq_true,if_false]
   exact Ev.now _
|true=>
  obtain ⟨hs,n,P,Q,rfl,hSol,rfl,h6⟩:=hT rfl
  have hp:=hSol.pivok
  have hn:=hSol.okm.le6
  have hcnt:=hSol.cnt
  have hrows:=hSol.okm.rows
  have hpr:∀p∈P.reverse,PivOk n p:=fun p hp'=>hp p (List.mem_reverse.1 hp')
  have hmr:(P.map (·.1)).reverse=P.reverse.map (·.1):=by rw [List.map_reverse]
  refine ⟨true,solOf n P.reverse,?_,?_,by unfold solOf;rw [solStep_len];simp;omega,by simp,fun _=>⟨hs,n,P,Q,rfl,hSol,rfl,hI⟩⟩
  ·unfold impl_SolutionOf.f
   refine Ev.bind hI ?_
   simp only [if_true,if_pos (show (0:Int)≤(n:Int) by omega),Int.toNat_natCast,if_pos (show n≤17592186044416 by omega),Option.bind_some,List.length_replicate]
   refine solI_l0 n _ _ (by omega) ?_ n 0 _ (by omega) (by omega) (by simp) (by simp)
   rw [hmr]
   have:=solI_l1 n P.reverse hpr (by omega) (by simp;omega) _ 0 (List.replicate n ⟨0,1⟩) rfl (by omega) (by simp)
   simpa [solOf] using this
  ·unfold spec_SolutionOf.f
   refine Ev.bind hS ?_
   simp only [if_true]
   refine solS_l0 m v n _ (by omega) ?_ n 0 (by omega) (by omega)
   refine Ev.bind h6 ?_
   rw [hmr]
   exact solS_l1 n P.reverse Q hpr (fun q hq=>⟨hSol.lenQ q hq,hSol.zero q hq⟩) (by omega) (by simp;omega) _ 0 (List.replicate n ⟨0,1⟩) rfl (by omega) (by simp)
theorem at0_set (v:List Int) (k:Nat) (x:Int) (h:k<v.length) (j:Nat):at0 (v.set k x) j=if j=k then x else at0 v j:=by
 unfold at0
 rw [List.getD_eq_getElem?_getD,List.getD_eq_getElem?_getD,List.getElem?_set]
 by_cases e:j=k
 ·rw [if_pos e,if_pos e.symm,if_pos (by omega)]
  rfl
 ·rw [if_neg e,if_neg (fun h=>e h.symm)]
def dotN (a w:V):Nat→Int
 | 0=>0
 | i+1=>dotN a w i+a i*w i
theorem dotN_zero {a w:V}:∀n:Nat,(∀j,j<n→a j=0∨w j=0)→dotN a w n=0
 | 0,_=>rfl
 | n+1,h=>by
  simp only [dotN]
  rw [dotN_zero n fun j hj=>h j (by omega)]
  rcases h n (by omega) with e|e<;>rw [e]<;>simp
theorem dotN_set (a b w:V) (k:Nat) (x:Int) (hb:∀j,b j=if j=k then x else a j):∀n:Nat,dotN b w n=dotN a w n+if k<n then (x-a k)*w k else 0
 | 0=>by simp [dotN]
 | n+1=>by
  simp only [dotN]
  rw [dotN_set a b w k x hb n,hb n]
  by_cases e:n=k
  ·subst e
   rw [if_neg (by omega),if_pos rfl,if_pos (by omega),Int.sub_mul]
   omega
  ·rw [if_neg e]
   by_cases h:k<n
   ·rw [if_pos h,if_pos (by omega)];omega
   ·rw [if_neg h,if_neg (by omega)];omega
theorem dotN_bound (a w:V) (B:Nat):∀n:Nat,(∀j,j<n→(a j*w j).natAbs≤B)→(dotN a w n).natAbs≤n*B
 | 0,_=>by simp [dotN]
 | n+1,h=>by
  have h1:=dotN_bound a w B n fun j hj=>h j (by omega)
  have h2:=h n (by omega)
  simp only [dotN,Nat.add_mul,Nat.one_mul]
  omega
def cmS (l:Int) (p:List Int × Nat):Int:=l / ((Int.gcd l (at0 p.1 p.2):Nat):Int)*at0 p.1 p.2
theorem cmS_lcm (l x:Int) (hl:0<l) (hx:0<x):l / ((Int.gcd l x:Nat):Int)*x=((Nat.lcm l.natAbs x.natAbs:Nat):Int):=by
 obtain ⟨a,rfl⟩:=Int.eq_ofNat_of_zero_le (Int.le_of_lt hl)
 obtain ⟨b,rfl⟩:=Int.eq_ofNat_of_zero_le (Int.le_of_lt hx)
 rw [show Int.gcd (a:Int) (b:Int)=Nat.gcd a b from rfl,Int.natAbs_natCast,Int.natAbs_natCast]
 have:a / Nat.gcd a b*b=Nat.lcm a b:=by
  unfold Nat.lcm
  exact Nat.div_mul_right_comm (Nat.gcd_dvd_left a b) b
 rw [← this]
 simp
theorem cmS_ok (D l:Int) (p:List Int × Nat) (hl:0<l) (hx:0<at0 p.1 p.2) (h1:l∣D) (h2:at0 p.1 p.2∣D):0<cmS l p∧cmS l p∣D∧l∣cmS l p∧at0 p.1 p.2∣cmS l p:=by
 unfold cmS
 rw [cmS_lcm l _ hl hx]
 have e1:0<l.natAbs:=by omega
 have e2:0<(at0 p.1 p.2).natAbs:=by omega
 refine ⟨by have:=Nat.lcm_pos e1 e2;omega,?_,?_,?_⟩
 ·rw [Int.ofNat_dvd_left]
  exact Nat.lcm_dvd (Int.natAbs_dvd_natAbs.2 h1) (Int.natAbs_dvd_natAbs.2 h2)
 ·rw [← Int.natAbs_dvd,Int.natCast_dvd_natCast]
  exact Nat.dvd_lcm_left _ _
 ·rw [← Int.natAbs_dvd,Int.natCast_dvd_natCast]
  exact Nat.dvd_lcm_right _ _
theorem cm_ok (D:Int):∀(L:List (List Int × Nat)) (l:Int),(∀p∈L,0<at0 p.1 p.2∧at0 p.1 p.2∣D)→0<l→l∣D→0<L.foldl cmS l∧L.foldl cmS l∣D∧l∣L.foldl cmS l∧∀p∈L,at0 p.1 p.2∣L.foldl cmS l
|[],l,_,hl,hd=>⟨hl,hd,Int.dvd_refl l,by simp⟩
|p :: L,l,h,hl,hd=>by
  obtain ⟨h1,h2⟩:=h p (by simp)
  obtain ⟨k1,k2,k3,k4⟩:=cmS_ok D l p hl h1 hd h2
  obtain ⟨m1,m2,m3,m4⟩:=cm_ok D L (cmS l p) (fun q hq=>h q (by simp [hq])) k1 k2
  refine ⟨m1,m2,Int.dvd_trans k3 m3,fun q hq=>?_⟩
  rcases List.mem_cons.1 hq with e|e
  ·rw [e];exact Int.dvd_trans k4 m3
  ·exact m4 q e
def nvStep (c:Int) (f:Nat) (v:List Int) (p:List Int × Nat):List Int:=v.set p.2 (-(at0 p.1 f)*(c / at0 p.1 p.2))
def nvOf (n:Nat) (c:Int) (f:Nat) (L:List (List Int × Nat)):List Int:=L.foldl (nvStep c f) ((List.replicate n 0).set f c)
theorem nvStep_len (c:Int) (f:Nat):∀(L:List (List Int × Nat)) (v:List Int),(L.foldl (nvStep c f) v).length=v.length
 | [],_=>rfl
 | p :: L,v=>by
  rw [List.foldl_cons,nvStep_len c f L]
  simp [nvStep]
theorem nv_dot (n:Nat) (c:Int) (f:Nat) (w:V):∀(L:List (List Int × Nat)) (v:List Int),(L.map (·.2)).Nodup→v.length=n→(∀p∈L,p.2<n∧at0 v p.2=0)→dotN (at0 (L.foldl (nvStep c f) v)) w n=dotN (at0 v) w n-sumOver (fun p=>c / at0 p.1 p.2*w p.2*at0 p.1 f) L
|[],v,_,_,_=>by simp [sumOver]
|p :: L,v,hn,hv,h=>by
  obtain ⟨h1,h2⟩:=h p (by simp)
  rw [List.map_cons] at hn
  have hn':=List.nodup_cons.1 hn
  have hs:=at0_set v p.2 (-(at0 p.1 f)*(c / at0 p.1 p.2)) (by omega)
  rw [List.foldl_cons,nv_dot n c f w L _ hn'.2 (by simp [nvStep,hv]) fun q hq=>?_]
  ·rw [dotN_set (at0 v) (at0 (nvStep c f v p)) w p.2 _ hs n,if_pos h1,h2]
   simp only [sumOver]
   have:(-(at0 p.1 f)*(c / at0 p.1 p.2)-0)*w p.2 = -(c / at0 p.1 p.2*w p.2*at0 p.1 f):=by
    rw [Int.sub_zero,Int.neg_mul,Int.neg_mul,Int.mul_comm (at0 p.1 f),Int.mul_right_comm]
   rw [this]
   omega
  ·obtain ⟨k1,k2⟩:=h q (by simp [hq])
   refine ⟨k1,?_⟩
   show at0 (v.set p.2 _) q.2=0
   rw [hs,if_neg fun e=>hn'.1 (by rw [← e];exact List.mem_map_of_mem hq),k2]
theorem at0_rep (n:Nat) (j:Nat):at0 (List.replicate n 0) j=0:=by
 unfold at0
 rw [List.getD_eq_getElem?_getD,List.getElem?_replicate]
 split<;>rfl
theorem nv_res (n:Nat) (c:Int) (f:Nat) (L:List (List Int × Nat)) (w:V) (hn:(L.map (·.2)).Nodup) (hf:f<n) (hL:∀p∈L,p.2<n) (hfL:¬f∈L.map (·.2)):dotN (at0 (nvOf n c f L)) w n=res c L w f:=by
 unfold nvOf
 have hs:=at0_set (List.replicate n 0) f c (by simpa using hf)
 rw [nv_dot n c f w L _ hn (by simp) fun p hp=>⟨hL p hp,?_⟩]
 ·rw [dotN_set (at0 (List.replicate n 0)) _ w f c hs n,if_pos hf,at0_rep,dotN_zero n fun j _=>Or.inl (at0_rep n j)]
  unfold res
  simp
 ·rw [hs,if_neg fun e=>hfL (by rw [← e];exact List.mem_map_of_mem hp),at0_rep]
theorem nv_at (c:Int) (f:Nat):∀(L:List (List Int × Nat)) (v:List Int) (B:Nat),(∀p∈L,p.2<v.length∧(c / at0 p.1 p.2*at0 p.1 f).natAbs≤B)→(∀j,(at0 v j).natAbs≤B)→∀j,(at0 (L.foldl (nvStep c f) v) j).natAbs≤B
|[],v,B,_,h=>h
|p :: L,v,B,hL,h=>by
  obtain ⟨h1,h2⟩:=hL p (by simp)
  refine nv_at c f L _ B (fun q hq=>?_) fun j=>?_
  ·have:=hL q (by simp [hq])
   simpa [nvStep] using this
  ·show (at0 (v.set p.2 _) j).natAbs≤B
   rw [at0_set v p.2 _ h1]
   split
   ·rw [Int.neg_mul,Int.natAbs_neg,Int.mul_comm];exact h2
   ·exact h j
theorem sumOver_append {α:Type} (g:α→Int):∀(l m:List α),sumOver g (l ++ m)=sumOver g l+sumOver g m
 | [],m=>by simp [sumOver]
 | a :: l,m=>by
  simp only [List.cons_append,sumOver]
  rw [sumOver_append g l m]
  omega
theorem sumOver_reverse {α:Type} (g:α→Int):∀l:List α,sumOver g l.reverse=sumOver g l
 | []=>rfl
 | a :: l=>by
  rw [List.reverse_cons,sumOver_append,sumOver_reverse g l]
  simp only [sumOver]
  omega
theorem res_reverse (c:Int) (P:List (List Int × Nat)) (w:V) (j:Nat):res c P.reverse w j=res c P w j:=by
 unfold res
 rw [sumOver_reverse]
theorem fp5_le:∀n,n<6→fct n*2 ^ n≤3840∧fct n*2 ^ (n-1)*1000≤1920000∧fct n*2 ^ (n-1)*2≤3840:=by decide
theorem small_piv5 {S:V→Prop} {c m:Nat} {P:List (List Int × Nat)} {Q:List (List Int)} (h:Red S c P Q) (hb:∀o,S o→∀j,(o j).natAbs≤bnd m j) (hc:c≤m) (hm:P.length<6) :
  ∃D:Int,0<D∧D≤3840∧∀p∈P,∃e:Int,0<e∧D=at0 p.1 p.2*e∧(∀j,j<m→(e*at0 p.1 j).natAbs≤3840)∧∀j,(e*at0 p.1 j).natAbs≤1920000:=by
 obtain ⟨D,hD,hDb,hh⟩:=h.st.bound_piv (bnd m) hb h.prim
 have hk:∀k∈P.map (·.2),k<m:=fun k hk=>by
  obtain ⟨p,hp,rfl⟩:=List.mem_map.1 hk
  have:=h.ncol p hp
  omega
 rw [prod_small m _ hk,List.length_map] at hDb
 have h2:=fp5_le P.length hm
 refine ⟨D.natAbs,by omega,by omega,fun p hp=>?_⟩
 obtain ⟨e,he,hj⟩:=hh p hp
 have hpos:=h.pos p hp
 have hnn:(e.natAbs:Int)*at0 p.1 p.2=D.natAbs:=by
  rw [he,Int.natAbs_mul,Int.natCast_mul,Int.mul_comm]
  congr 1
  omega
 have hj':∀j,((e.natAbs:Int)*at0 p.1 j).natAbs≤fct P.length*(bnd m j*2 ^ (P.length-1)):=fun j=>by
  have:=hj j
  rw [prod_small m _ fun k h=>hk k (List.mem_of_mem_erase h),List.length_erase_of_mem (List.mem_map_of_mem hp),List.length_map] at this
  rw [Int.natAbs_mul] at this ⊢
  simpa using this
 have he0:e≠0:=fun e0=>hD (by rw [he,e0,Int.mul_zero])
 refine ⟨e.natAbs,by omega,by rw [← hnn,Int.mul_comm],fun j hjm=>?_,fun j=>?_⟩
 ·have h3:=hj' j
  have h4:bnd m j=2:=by unfold bnd;rw [if_pos hjm]
  rw [h4] at h3
  have h5:fct P.length*(2*2 ^ (P.length-1))=fct P.length*2 ^ (P.length-1)*2:=by rw [Nat.mul_comm 2,Nat.mul_assoc]
  omega
 ·have h3:=hj' j
  have h4:fct P.length*(bnd m j*2 ^ (P.length-1))≤fct P.length*(1000*2 ^ (P.length-1)):=Nat.mul_le_mul_left _ (Nat.mul_le_mul_right _ (bnd_le m j))
  have h5:fct P.length*(1000*2 ^ (P.length-1))=fct P.length*2 ^ (P.length-1)*1000:=by rw [Nat.mul_comm 1000,Nat.mul_assoc]
  omega
structure NvOk (n B : Nat) (D : Int) (p : List Int × Nat) : Prop where
 len : p.1.length = n
 col : p.2 < n
 ld : ld p.1 = p.2
 pos : 0 < at0 p.1 p.2
 ex : ∃ e : Int, 0 < e ∧ D = at0 p.1 p.2 * e ∧ ∀ j, j < n → (e * at0 p.1 j).natAbs ≤ B
theorem NvOk.dvd {n B:Nat} {D:Int} {p:List Int × Nat} (h:NvOk n B D p):at0 p.1 p.2∣D:=by
 obtain ⟨e,_,h,_⟩:=h.ex
 exact ⟨e,h⟩
theorem NvOk.quot {n B:Nat} {D c:Int} {p:List Int × Nat} (h:NvOk n B D p) (hD:0<D) (hc:0<c) (h1:c∣D) (h2:at0 p.1 p.2∣c) (j:Nat) (hj:j<n):(c / at0 p.1 p.2*at0 p.1 j).natAbs≤B:=by
 obtain ⟨e,he,hDe,hb⟩:=h.ex
 obtain ⟨u,hu⟩:=h1
 obtain ⟨v,hv⟩:=h2
 have hp:=h.pos
 have hu0:0<u:=by
  rcases Int.lt_or_le 0 u with h|h
  ·exact h
  ·have:c*u≤0:=Int.mul_nonpos_of_nonneg_of_nonpos (by omega) h
   omega
 have e1:e=v*u:=by
  have:at0 p.1 p.2*e=at0 p.1 p.2*(v*u):=by rw [← hDe,hu,hv,Int.mul_assoc]
  exact Int.eq_of_mul_eq_mul_left (by omega) this
 have e2:c / at0 p.1 p.2=v:=by rw [hv];exact Int.mul_ediv_cancel_left _ (by omega)
 have:=hb j hj
 rw [e1,Int.mul_right_comm,Int.natAbs_mul] at this
 rw [e2]
 have h3:(v*at0 p.1 j).natAbs*1≤(v*at0 p.1 j).natAbs*u.natAbs:=Nat.mul_le_mul_left _ (by omega)
 omega
theorem dotI_l0 (a b:List Int) (n:Nat) (ha:a.length=n) (hb:b.length=n) (hn:n≤1000) (hs:∀j,j<n→(at0 a j*at0 b j).natAbs≤1099511627776) (d:Nat):∀i:Nat,n-i=d→i≤n→Ev (fun k=>impl_DotOf.l0 k a b (dotN (at0 a) (at0 b) i) (n:Int) (i:Int)) (dotN (at0 a) (at0 b) n):=by
 induction d with
|zero=>
  intro i hd hi
  have e:i=n:=by omega
  subst e
  refine Ev.step (f:=fun _=>some (dotN (at0 a) (at0 b) i)) (fun k=>?_) (Ev.now _)
  simp only [impl_DotOf.l0]
  rw [if_neg (by omega)]
|succ d ih=>
  intro i hd hi
  have h1:=dotN_bound (at0 a) (at0 b) 1099511627776 i fun j hj=>hs j (by omega)
  have h2:=hs i (by omega)
  have h3:i*1099511627776≤1000*1099511627776:=Nat.mul_le_mul_right _ (by omega)
  refine Ev.step (f:=fun k=>impl_DotOf.l0 k a b (dotN (at0 a) (at0 b) (i+1)) (n:Int) ((i+1:Nat):Int)) (fun k=>?_) (ih (i+1) (by omega) (by omega))
  simp only [impl_DotOf.l0]
  rw [if_pos (by omega),if_pos (by omega),if_pos (by omega),if_pos (by omega),at0_rd,at0_rd,wrap_id (x:=(i:Int)+1) (by omega) (by omega),wrap_id (x:=at0 a i*at0 b i) (by omega) (by omega),wrap_id (by omega) (by omega)]
  rfl
theorem dotI_ev (a b:List Int) (n:Nat) (ha:a.length=n) (hb:b.length=n) (hn:n≤1000) (hs:∀j,j<n→(at0 a j*at0 b j).natAbs≤1099511627776):Ev (fun k=>impl_DotOf.f k a b) (dotN (at0 a) (at0 b) n):=by
 unfold impl_DotOf.f
 have e:mn (a.length:Int) (b.length:Int)=(n:Int):=by rw [ha,hb];unfold mn;split<;>rfl
 rw [e]
 exact dotI_l0 a b n ha hb hn hs n 0 (by omega) (by omega)
theorem nullI_l2 (row:List Int) (n:Nat) (c:Int) (bg:List Bool) (f:Nat) (L:List (List Int × Nat)) (r:List Int) {B:Nat} {D:Int} (hB:B≤46080) (hn:n≤1000) (hl:L.length≤1000) (hD:0<D) (hL:∀p∈L,NvOk n B D p) (hc:0<c) (hcD:c∣D) (hpc:∀p∈L,at0 p.1 p.2∣c) (hcs:c≤46080) (hf:f<n)
  (v0:List Int) (hend:∀v,v=L.foldl (nvStep c f) v0→Ev (fun k=>(impl_DotOf.f k v row).bind fun t=>if t=0 then impl_NullVector.l1 k row (n:Int) (L.map (·.1)) c bg (n:Int) ((f+1:Nat):Int) else some v) r) (d:Nat):∀(i:Nat) (v:List Int),L.length-i=d→i≤L.length→v.length=n→(L.drop i).foldl (nvStep c f) v=L.foldl (nvStep c f) v0→
  Ev (fun k=>impl_NullVector.l2 k row (n:Int) (L.map (·.1)) c bg (f:Int) v (n:Int) (f:Int) (L.map (·.1)) (L.length:Int) (i:Int)) r:=by
 induction d with
|zero=>
  intro i v hd hi hv hq
  rw [List.drop_eq_nil_of_le (by omega)] at hq
  refine Ev.step (fun k=>?_) (hend v hq)
  simp only [impl_NullVector.l2]
  rw [if_neg (by omega),wrap_id (by omega) (by omega)]
  rfl
|succ d ih=>
  intro i v hd hi hv hq
  have h:i<L.length:=by omega
  have hpm:=List.getElem_mem h
  have hp:=hL _ hpm
  have h1:=hp.len;have h2:=hp.col;have h3:=hp.ld;have h4:=hp.pos
  have hlead:=leadI_ev L[i].1 (by omega)
  rw [if_pos (by omega),h3] at hlead
  have hrow:rd_L1 (L.map (·.1)) (i:Int)=L[i].1:=by
   rw [rdL_nat _ i (by simpa using h)]
   simp
  have hqt:=hp.quot hD hc hcD (hpc _ hpm) f hf
  have hqp:=hp.quot hD hc hcD (hpc _ hpm) L[i].2 h2
  have hdv:c / at0 L[i].1 L[i].2*at0 L[i].1 L[i].2=c:=Int.ediv_mul_cancel (hpc _ hpm)
  have hcq:0≤c / at0 L[i].1 L[i].2:=Int.ediv_nonneg (by omega) (by omega)
  have hcq2:c / at0 L[i].1 L[i].2≤c:=Int.ediv_le_self _ (by omega)
  obtain ⟨e0,he0,_,heb⟩:=hp.ex
  have hxf:(at0 L[i].1 f).natAbs≤46080:=by
   have:=heb f hf
   rw [Int.natAbs_mul] at this
   have h5:1*(at0 L[i].1 f).natAbs≤e0.natAbs*(at0 L[i].1 f).natAbs:=Nat.mul_le_mul_right _ (by omega)
   omega
  rw [List.drop_eq_getElem_cons h,List.foldl_cons] at hq
  refine Ev.step (f:=fun k=>(impl_lead.f k L[i].1).bind fun t=>if 0≤(f:Int) then (if (f:Int)<(L[i].1.length:Int) then (if 0≤t then (if t<(L[i].1.length:Int) then (if (rd L[i].1 t)=0 then none else (if t<(v.length:Int) then impl_NullVector.l2 k row (n:Int) (L.map (·.1)) c bg (f:Int) (v.set t.toNat (wrap64 ((wrap64 (-(rd L[i].1 (f:Int))))*(wrap64 (Int.tdiv c (rd L[i].1 t)))))) (n:Int) (f:Int) (L.map (·.1)) (L.length:Int) ((i+1:Nat):Int) else none)) else none) else none) else none) else none) (fun k=>?_) (Ev.bind hlead ?_)
  ·simp only [impl_NullVector.l2]
   rw [if_pos (by omega),if_pos (by omega),if_pos (by simpa using h),hrow,wrap_id (x:=(i:Int)+1) (by omega) (by omega)]
   rfl
  ·have e1:wrap64 ((wrap64 (-(at0 L[i].1 f)))*(wrap64 (Int.tdiv c (at0 L[i].1 L[i].2)))) = -(at0 L[i].1 f)*(c / at0 L[i].1 L[i].2):=by
    rw [Int.tdiv_eq_ediv_of_nonneg (by omega),wrap_id (x:=-(at0 L[i].1 f)) (by omega) (by omega),wrap_id (x:=c / at0 L[i].1 L[i].2) (by omega) (by omega)]
    rw [show -(at0 L[i].1 f)*(c / at0 L[i].1 L[i].2) = -(c / at0 L[i].1 L[i].2*at0 L[i].1 f) by rw [Int.neg_mul,Int.mul_comm]]
    exact wrap_id (by omega) (by omega)
   simp only [if_pos (show (0:Int)≤(f:Int) by omega),if_pos (show (f:Int)<(L[i].1.length:Int) by omega),if_pos (show (0:Int)≤(L[i].2:Int) by omega),if_pos (show (L[i].2:Int)<(L[i].1.length:Int) by omega),at0_rd,if_neg (show ¬at0 L[i].1 L[i].2=0 by omega),if_pos (show (L[i].2:Int)<(v.length:Int) by omega),Int.toNat_natCast,e1]
   exact ih (i+1) _ (by omega) (by omega) (by simpa using hv) hq
def nvFrom (n:Nat) (c:Int) (L:List (List Int × Nat)) (row:List Int):Nat→Nat→List Int
 | 0,_=>[]
 | d+1,f=>if f∈L.map (·.2) then nvFrom n c L row d (f+1) else if dotN (at0 (nvOf n c f L)) (at0 row) n=0 then nvFrom n c L row d (f+1) else nvOf n c f L
structure NvAll (n B : Nat) (D c : Int) (L : List (List Int × Nat)) (row : List Int) : Prop where
 hB : B ≤ 46080
 hn : n ≤ 1000
 hl : L.length ≤ 1000
 hD : 0 < D
 hL : ∀ p ∈ L, NvOk n B D p
 hc : 0 < c
 hcD : c ∣ D
 hpc : ∀ p ∈ L, at0 p.1 p.2 ∣ c
 hcs : c ≤ B
 hr : row.length = n
 hrs : ∀ j, (at0 row j).natAbs ≤ 1000
theorem nv_small {n B:Nat} {D c:Int} {L:List (List Int × Nat)} {row:List Int} (h:NvAll n B D c L row) (f:Nat) (hf:f<n):(nvOf n c f L).length=n∧∀j,(at0 (nvOf n c f L) j).natAbs≤B:=by
 refine ⟨by unfold nvOf;rw [nvStep_len];simp,?_⟩
 unfold nvOf
 refine nv_at c f L _ B (fun p hp=>⟨by simpa using (h.hL p hp).col,(h.hL p hp).quot h.hD h.hc h.hcD (h.hpc p hp) f hf⟩) fun j=>?_
 have h1:=h.hc;have h2:=h.hcs
 rw [at0_set _ f c (by simpa using hf),at0_rep]
 split
 ·omega
 ·exact Nat.zero_le _
theorem nv_dotI {n B:Nat} {D c:Int} {L:List (List Int × Nat)} {row:List Int} (h:NvAll n B D c L row) (f:Nat) (hf:f<n):∀j,j<n→(at0 (nvOf n c f L) j*at0 row j).natAbs≤1099511627776:=by
 intro j _
 have h1:=(nv_small h f hf).2 j
 have h2:=h.hrs j
 have h3:=h.hB
 rw [Int.natAbs_mul]
 exact Nat.le_trans (Nat.mul_le_mul (Nat.le_trans h1 h3) h2) (by omega)
theorem nullI_l1 {n B:Nat} {D c:Int} {L:List (List Int × Nat)} {row:List Int} (h:NvAll n B D c L row) (bg:List Bool) (hbl:bg.length=n) (hbg:∀j,j<n→bg.getD j false=decide (j∈L.map (·.2))) (d:Nat):∀f:Nat,n-f=d→f≤n→Ev (fun k=>impl_NullVector.l1 k row (n:Int) (L.map (·.1)) c bg (n:Int) (f:Int)) (nvFrom n c L row d f):=by
 have hn:=h.hn
 induction d with
|zero=>
  intro f hd hf
  refine Ev.step (f:=fun _=>some []) (fun k=>?_) (Ev.now _)
  simp only [impl_NullVector.l1]
  rw [if_neg (by omega)]
|succ d ih=>
  intro f hd hf
  have hfn:f<n:=by omega
  have hrd:rdOf false bg (f:Int)=decide (f∈L.map (·.2)):=by
   unfold rdOf
   rw [Int.toNat_natCast]
   exact hbg f hfn
  by_cases hm:f∈L.map (·.2)
  ·unfold nvFrom
   rw [if_pos hm]
   refine Ev.step (fun k=>?_) (ih (f+1) (by omega) (by omega))
   simp only [impl_NullVector.l1]
   rw [if_pos (by omega),if_pos (by omega),if_pos (by omega),hrd,decide_eq_true hm,if_pos rfl,wrap_id (by omega) (by omega)]
   rfl
  ·unfold nvFrom
   rw [if_neg hm]
   have hs:=nv_small h f hfn
   have hl2:=nullI_l2 row n c bg f L (if dotN (at0 (nvOf n c f L)) (at0 row) n=0 then nvFrom n c L row d (f+1) else nvOf n c f L) h.hB hn h.hl h.hD h.hL h.hc h.hcD h.hpc (by have:=h.hcs;have:=h.hB;omega) hfn ((List.replicate n 0).set f c) (fun v hv=>?_) L.length 0 ((List.replicate n 0).set f c) (by omega) (by omega) (by simp) (by rw [List.drop_zero])
   ·refine Ev.step (fun k=>?_) hl2
    simp only [impl_NullVector.l1]
    rw [if_pos (by omega),if_pos (by omega),if_pos (by omega),hrd,decide_eq_false hm,if_neg (by decide),if_pos (by omega),if_pos (by rw [Int.toNat_natCast];omega)]
    simp only [Option.bind_some,Int.toNat_natCast,List.length_replicate,if_pos (show (f:Int)<(n:Int) by omega),List.length_map]
    rfl
   ·have e:v=nvOf n c f L:=hv
    subst e
    refine Ev.bind (dotI_ev _ row n hs.1 h.hr hn (nv_dotI h f hfn)) ?_
    by_cases h0:dotN (at0 (nvOf n c f L)) (at0 row) n=0
    ·simp only [if_pos h0]
     exact ih (f+1) (by omega) (by omega)
    ·simp only [if_neg h0]
     exact Ev.now _
def bgStep (b:List Bool) (p:List Int × Nat):List Bool:=b.set p.2 true
theorem bg_len:∀(L:List (List Int × Nat)) (b:List Bool),(L.foldl bgStep b).length=b.length
 | [],_=>rfl
 | p :: L,b=>by
  rw [List.foldl_cons,bg_len L]
  simp [bgStep]
theorem bg_at:∀(L:List (List Int × Nat)) (b:List Bool) (j:Nat),j<b.length→(L.foldl bgStep b).getD j false=(b.getD j false || decide (j∈L.map (·.2)))
 | [],b,j,_=>by simp
 | p :: L,b,j,hj=>by
  rw [List.foldl_cons,bg_at L _ j (by simpa [bgStep] using hj)]
  unfold bgStep
  rw [List.getD_eq_getElem?_getD,List.getElem?_set,List.getD_eq_getElem?_getD]
  by_cases e:p.2=j
  ·rw [if_pos e,if_pos (by omega)]
   simp [e]
  ·rw [if_neg e]
   have:(j∈(p :: L).map (·.2))↔(j∈L.map (·.2)):=by
    rw [List.map_cons,List.mem_cons]
    exact ⟨fun h=>h.resolve_left fun h=>e h.symm,Or.inr⟩
   rw [decide_eq_decide.2 this]
theorem nullI_l0 (row:List Int) (n B:Nat) (D:Int) (L:List (List Int × Nat)) (r:List Int) (hB:B≤46080) (hn:n≤1000) (hl:L.length≤1000) (hD:0<D) (hDB:D≤46080) (hL:∀p∈L,NvOk n B D p) (hend:Ev (fun k=>impl_NullVector.l1 k row (n:Int) (L.map (·.1)) (L.foldl cmS 1) (L.foldl bgStep (List.replicate n false)) (n:Int) 0) r) (d:Nat) :
  ∀(i:Nat) (c:Int) (b:List Bool),L.length-i=d→i≤L.length→b.length=n→0<c→c∣D→(L.drop i).foldl cmS c=L.foldl cmS 1→(L.drop i).foldl bgStep b=L.foldl bgStep (List.replicate n false)→Ev (fun k=>impl_NullVector.l0 k row (n:Int) (L.map (·.1)) c b (L.map (·.1)) (L.length:Int) (i:Int)) r:=by
 induction d with
|zero=>
  intro i c b hd hi hb hc hcD h1 h2
  rw [List.drop_eq_nil_of_le (by omega)] at h1 h2
  rw [show c=L.foldl cmS 1 from h1,show b=L.foldl bgStep (List.replicate n false) from h2]
  refine Ev.step (fun k=>?_) hend
  simp only [impl_NullVector.l0]
  rw [if_neg (by omega)]
|succ d ih=>
  intro i c b hd hi hb hc hcD h1 h2
  have h:i<L.length:=by omega
  have hpm:=List.getElem_mem h
  have hp:=hL _ hpm
  have k1:=hp.len;have k2:=hp.col;have k3:=hp.ld;have k4:=hp.pos
  have hlead:=leadI_ev L[i].1 (by omega)
  rw [if_pos (by omega),k3] at hlead
  have hrow:rd_L1 (L.map (·.1)) (i:Int)=L[i].1:=by
   rw [rdL_nat _ i (by simpa using h)]
   simp
  have hcl:c≤D:=Int.le_of_dvd hD hcD
  have hpl:at0 L[i].1 L[i].2≤D:=Int.le_of_dvd hD hp.dvd
  obtain ⟨m1,m2,m3,m4⟩:=cmS_ok D c L[i] hc k4 hcD hp.dvd
  have hml:cmS c L[i]≤D:=Int.le_of_dvd hD m2
  have hg:=gcdI_ev c (at0 L[i].1 L[i].2) (by omega) (by omega) (by omega) (by omega)
  have hgp:0<Int.gcd c (at0 L[i].1 L[i].2):=by
   rcases Nat.eq_zero_or_pos (Int.gcd c (at0 L[i].1 L[i].2)) with h|h
   ·have:=(Int.gcd_eq_zero_iff.1 h).1
    omega
   ·exact h
  have hq0:0≤c / ((Int.gcd c (at0 L[i].1 L[i].2):Nat):Int):=Int.ediv_nonneg (by omega) (by omega)
  have hq1:c / ((Int.gcd c (at0 L[i].1 L[i].2):Nat):Int)≤c:=Int.ediv_le_self _ (by omega)
  rw [List.drop_eq_getElem_cons h,List.foldl_cons] at h1 h2
  refine Ev.step (f:=fun k=>(impl_lead.f k L[i].1).bind fun t=>if 0≤t then (if t<(b.length:Int) then (if t<(L[i].1.length:Int) then ((impl_gcd.f k c (rd L[i].1 t)).bind fun g=>if g=0 then none else impl_NullVector.l0 k row (n:Int) (L.map (·.1)) (wrap64 ((wrap64 (Int.tdiv c g))*(rd L[i].1 t))) (b.set t.toNat true) (L.map (·.1)) (L.length:Int) ((i+1:Nat):Int)) else none) else none) else none) (fun k=>?_) (Ev.bind hlead ?_)
  ·simp only [impl_NullVector.l0]
   rw [if_pos (by omega),if_pos (by omega),if_pos (by simpa using h),hrow,wrap_id (x:=(i:Int)+1) (by omega) (by omega)]
   rfl
  ·simp only [if_pos (show (0:Int)≤(L[i].2:Int) by omega),if_pos (show (L[i].2:Int)<(L[i].1.length:Int) by omega),at0_rd,if_pos (show (L[i].2:Int)<(b.length:Int) by omega),Int.toNat_natCast]
   refine Ev.bind hg ?_
   have e1:wrap64 (wrap64 (Int.tdiv c ((Int.gcd c (at0 L[i].1 L[i].2):Nat):Int))*at0 L[i].1 L[i].2)=cmS c L[i]:=by
    rw [Int.tdiv_eq_ediv_of_nonneg (by omega),wrap_id (x:=c / _) (by omega) (by omega)]
    exact wrap_id (show (-9223372036854775808:Int)≤cmS c L[i] by omega) (show cmS c L[i]<9223372036854775808 by omega)
   simp only [if_neg (show ¬((Int.gcd c (at0 L[i].1 L[i].2):Nat):Int)=0 by omega),e1]
   exact ih (i+1) _ _ (by omega) (by omega) (by simpa using hb) m1 m2 h1 h2
theorem piv_all {S:V→Prop} {n:Nat} {P:List (List Int × Nat)} {Q:List (List Int)} (h:Red S n P Q) (hl:n≤P.length):∀j,j<n→j∈P.map (·.2):=by
 have e:=sorted_sub (P.map (·.2)) (List.range n).reverse h.sorted (by rw [List.pairwise_reverse];exact List.pairwise_lt_range) (fun k hk=>by
  obtain ⟨p,hp,rfl⟩:=List.mem_map.1 hk
  simpa using h.ncol p hp) (by simpa using hl)
 intro j hj
 rw [e]
 simpa using hj
theorem full_span {m:List (List Int)} {row:List Int} {n:Nat} {P:List (List Int × Nat)} {Q:List (List Int)} (h:Red (RowSp m) n P Q) (hP:∀p∈P,p.1.length=n) (hr:row.length=n) (hl:n≤P.length):Sp (RowSp m) (at0 row):=by
 refine sp_of_res (P:=P) (common_ne h.st.piv.2.1) h.st.inP fun j=>?_
 rcases Nat.lt_or_ge j n with hj|hj
 ·obtain ⟨p,hp,e⟩:=List.mem_map.1 (piv_all h hl j hj)
  rw [← e]
  exact res_piv h.st.piv (common P) dvd_common (at0 row) p hp
 ·unfold res
  rw [at0_out (by rw [hr];exact hj),sumOver_zero _ _ fun q hq=>by
   rw [show at0 q.1 j=0 from at0_out (by rw [hP q hq];exact hj)];simp]
  simp
theorem nvFrom_ok (n:Nat) (c:Int) (L:List (List Int × Nat)) (row:List Int) (f0:Nat) (d:Nat):∀f:Nat,f+d=n→f≤f0→f0<n→¬f0∈L.map (·.2)→dotN (at0 (nvOf n c f0 L)) (at0 row) n≠0→∃g,g<n∧¬g∈L.map (·.2)∧dotN (at0 (nvOf n c g L)) (at0 row) n≠0∧nvFrom n c L row d f=nvOf n c g L:=by
 induction d with
|zero=>intro f h1 h2 h3;omega
|succ d ih=>
  intro f h1 h2 h3 h4 h5
  unfold nvFrom
  by_cases hm:f∈L.map (·.2)
  ·rw [if_pos hm]
   refine ih (f+1) (by omega) ?_ h3 h4 h5
   rcases Nat.lt_or_ge f f0 with h|h
   ·exact h
   ·have:f=f0:=by omega
    subst this
    exact absurd hm h4
  ·rw [if_neg hm]
   by_cases h0:dotN (at0 (nvOf n c f L)) (at0 row) n=0
   ·rw [if_pos h0]
    refine ih (f+1) (by omega) ?_ h3 h4 h5
    rcases Nat.lt_or_ge f f0 with h|h
    ·exact h
    ·have:f=f0:=by omega
     subst this
     exact absurd h0 h5
   ·rw [if_neg h0]
    exact ⟨f,by omega,hm,h0,rfl⟩
structure NullOf (m : List (List Int)) (row v : List Int) : Prop where
 len : v.length = row.length
 zero : ∀ r ∈ m, dotN (at0 v) (at0 r) row.length = 0
 one : dotN (at0 v) (at0 row) row.length ≠ 0
 small : ∀ j, (at0 v j).natAbs ≤ 3840
theorem null_impl (m:List (List Int)) (row:List Int) (hm:m.length≤16777216) (hr:∀x∈m,x.length≤16777216) (hl:row.length≤16777216):∃v:List Int,Ev (fun k=>impl_NullVector.f k m row) v∧v.length≤1000∧
  (bothB m row=false→v=[])∧(Sp (RowSp m) (at0 row)→v=[])∧(bothB m row=true→¬Sp (RowSp m) (at0 row)→NullOf m row v∧∃n:Nat,row.length=n∧Okm m n n):=by
 have h1:=implMat_ev m hm hr (row.length:Int)
 have h2:=implMat_ev [row] (by simp) (fun x hx=>by rw [List.mem_singleton.1 hx];exact hl) (row.length:Int)
 have hjI:Ev (fun k=>impl_NullVector.j0 k m row (row.length:Int) true) []:=Ev.step (f:=fun _=>some []) (fun k=>by simp only [impl_NullVector.j0];rw [if_pos trivial]) (Ev.now _)
 cases hb:bothB m row with
|false=>
  refine ⟨[],?_,by simp,by simp,by simp,by simp⟩
  ·unfold impl_NullVector.f
   refine Ev.bind h1 ?_
   cases e1:isMat m (row.length:Int) with
  |false=>
    simp only [Bool.false_eq_true,if_false]
    exact hjI
  |true=>
    simp only [if_true]
    refine Ev.bind h2 ?_
    have e2:isMat [row] (row.length:Int)=false:=by simpa [bothB,e1] using hb
    rw [e2]
    simp only [Bool.false_eq_true,if_false]
    exact hjI
|true=>
  have hb1:isMat m (row.length:Int)=true∧isMat [row] (row.length:Int)=true:=by simpa [bothB] using hb
  obtain ⟨b,bI,bi,_⟩:=implSpan_ev m row hm hr hl
  have hbi:=bi hb
  have key:∀v,Ev (fun k=>impl_NullVector.j0 k m row (row.length:Int) b) v→Ev (fun k=>impl_NullVector.f k m row) v:=fun v k1=>by
   ·unfold impl_NullVector.f
    rw [hb1.1] at h1
    rw [hb1.2] at h2
    refine Ev.bind h1 ?_
    simp only [if_true]
    refine Ev.bind h2 ?_
    simp only [if_true]
    exact Ev.bind bI k1
  cases b with
 |true=>
   have k1:=key [] hjI
   exact ⟨[],k1,by simp,by simp,fun _=>rfl,fun _ h=>absurd (hbi.1 rfl) h⟩
 |false=>
   have hns:¬Sp (RowSp m) (at0 row):=fun h=>by have:=hbi.2 h;cases this
   obtain ⟨n,hn,hok,_⟩:=okm_of_isMat hb1.1
   obtain ⟨P,Q,hR,hP,hQ,hevI⟩:=implRed hok
   have hz:=red_rest hR (Nat.le_refl _) hQ
   obtain ⟨n2,hn2,hok2,_⟩:=okm_of_isMat hb1.2
   have e1:row.length=n:=by omega
   have e2:n2=n:=by omega
   subst e2
   have hlen:P.length<n2:=by
    rcases Nat.lt_or_ge P.length n2 with h|h
    ·exact h
    ·exact absurd (full_span hR hP e1 h) hns
   have hle:=hok.le6
   obtain ⟨D,hD,hD2,he⟩:=small_piv5 hR hok.start.1 (Nat.le_refl _) (by omega)
   have hrs:=hok2.small row (by simp)
   have hL:∀p∈P.reverse,NvOk n2 3840 D p:=fun p hp=>by
    have hp':=List.mem_reverse.1 hp
    obtain ⟨e,k1,k2,k3,_⟩:=he p hp'
    have hpos:=hR.pos p hp'
    exact ⟨hP p hp',hR.ncol p hp',ld_eq p.1 p.2 (hR.lead p hp') (by omega),hpos,e,k1,k2,k3⟩
   obtain ⟨c1,c2,_,c4⟩:=cm_ok D P.reverse 1 (fun p hp=>⟨(hL p hp).pos,(hL p hp).dvd⟩) (by omega) ⟨D,by omega⟩
   generalize hcg:P.reverse.foldl cmS 1=c at c1 c2 c4
   have hall:NvAll n2 3840 D c P.reverse row:=⟨by omega,by omega,by rw [List.length_reverse];omega,hD,hL,c1,c2,c4,by have:=Int.le_of_dvd hD c2;omega,e1,fun j=>by
    have:=hrs j
    have:=bnd_le n2 j
    omega⟩
   have hmr:(P.map (·.1)).reverse=P.reverse.map (·.1):=by rw [List.map_reverse]
   rw [hmr] at hevI
   have k1:=key (nvFrom n2 c P.reverse row n2 0) (by
    refine Ev.step (f:=fun k=>(impl_reduceAny.f k m (n2:Int)).bind fun t=>impl_NullVector.l0 k row (n2:Int) t 1 (List.replicate n2 false) t (t.length:Int) 0) (fun k=>?_) (Ev.bind hevI ?_)
    ·simp only [impl_NullVector.j0,e1]
     rw [if_neg (by decide)]
     simp only [if_pos (show (0:Int)≤(n2:Int) by omega),Int.toNat_natCast,if_pos (show n2≤281474976710656 by omega)]
    ·rw [List.length_map]
     refine nullI_l0 row n2 3840 D P.reverse _ (by omega) (by omega) (by rw [List.length_reverse];omega) hD (by omega) hL ?_ P.reverse.length 0 1 _ (by omega) (by omega) (by simp) (by omega) ⟨D,by omega⟩ (by rw [List.drop_zero]) (by rw [List.drop_zero])
     rw [hcg]
     refine nullI_l1 hall _ (by rw [bg_len];simp) (fun j hj=>?_) n2 0 (by omega) (by omega)
     rw [bg_at _ _ _ (by simpa using hj)]
     simp [List.getD_eq_getElem?_getD,List.getElem?_replicate,hj])
   have hnd:(P.reverse.map (·.2)).Nodup:=by rw [List.map_reverse];unfold List.Nodup;rw [List.pairwise_reverse];exact hR.st.piv.1.imp fun h=>Ne.symm h
   have hcp:∀p∈P,at0 p.1 p.2∣c:=fun p hp=>c4 p (List.mem_reverse.2 hp)
   have hdot:∀g w,g<n2→¬g∈P.reverse.map (·.2)→dotN (at0 (nvOf n2 c g P.reverse)) w n2=res c P w g:=fun g w hg hgm=>by
    rw [nv_res n2 c g P.reverse w hnd hg (fun p hp=>(hL p hp).col) hgm,res_reverse]
   have hex:∃f0,f0<n2∧¬f0∈P.reverse.map (·.2)∧dotN (at0 (nvOf n2 c f0 P.reverse)) (at0 row) n2≠0:=by
    refine Classical.byContradiction fun hno=>hns ?_
    refine sp_of_res (P:=P) (L:=c) (by omega) hR.st.inP fun j=>?_
    rcases Nat.lt_or_ge j n2 with hj|hj
    ·by_cases hjm:j∈P.reverse.map (·.2)
     ·obtain ⟨p,hp,e⟩:=List.mem_map.1 hjm
      rw [← e]
      exact res_piv hR.st.piv c hcp (at0 row) p (List.mem_reverse.1 hp)
     ·rw [← hdot j (at0 row) hj hjm]
      exact Classical.byContradiction fun h=>hno ⟨j,hj,hjm,h⟩
    ·unfold res
     rw [at0_out (by rw [e1];exact hj),sumOver_zero _ _ fun q hq=>by
      rw [show at0 q.1 j=0 from at0_out (by rw [hP q hq];exact hj)];simp]
     simp
   obtain ⟨f0,q1,q2,q3⟩:=hex
   obtain ⟨g,g1,g2,g3,g4⟩:=nvFrom_ok n2 c P.reverse row f0 n2 0 (by omega) (by omega) q1 q2 q3
   rw [g4] at k1
   have hgs:=nv_small hall g g1
   refine ⟨_,k1,by rw [hgs.1];omega,by simp,fun h=>absurd h hns,fun _ _=>⟨⟨by rw [hgs.1,e1],fun r hr=>?_,by rw [e1];exact g3,hgs.2⟩,n2,e1,hok⟩⟩
   rw [e1,hdot g _ g1 g2]
   exact res_span hR.st.piv c hcp (hR.span hz (Sp.of ⟨r,hr,rfl⟩)) g
theorem mul_bd {x y:Int} {A B:Nat} (hx:x.natAbs≤A) (hy:y.natAbs≤B):(x*y).natAbs≤A*B:=by
 rw [Int.natAbs_mul]
 exact Nat.mul_le_mul hx hy
theorem den_pos {b d:Int} (hb:1≤b) (hd:1≤d):0<b*d:=Int.mul_pos (by omega) (by omega)
def addOf (a b c d:Int):Int × Int × Bool:=if isR a b=true∧isR c d=true then redOf (a*d+c*b) (b*d) else (0,0,false)
theorem IAdd_ev (a b c d:Int):Ev (fun k=>impl_AddRatios.f k a b c d) (addOf a b c d):=by
 unfold impl_AddRatios.f addOf
 refine Ev.bind (isRI_ev a b) ?_
 by_cases c1:isR a b=true
 ·simp only [c1,if_true,true_and]
  refine Ev.bind (isRI_ev c d) ?_
  by_cases c2:isR c d=true
  ·simp only [c2,if_true]
   have h1:=(isR_iff a b).1 c1
   have h2:=(isR_iff c d).1 c2
   have m1:=mul_bd (x:=a) (y:=d) (A:=1000000000) (B:=1000000000) (by omega) (by omega)
   have m2:=mul_bd (x:=c) (y:=b) (A:=1000000000) (B:=1000000000) (by omega) (by omega)
   have m3:=mul_bd (x:=b) (y:=d) (A:=1000000000) (B:=1000000000) (by omega) (by omega)
   have m4:=mul_bd (x:=a) (y:=c) (A:=1000000000) (B:=1000000000) (by omega) (by omega)
   have m5:=den_pos h1.2.1.1 h2.2.1.1
   have e1:wrap64 (a*d)=a*d:=wrap_id (by omega) (by omega)
   have e2:wrap64 (c*b)=c*b:=wrap_id (by omega) (by omega)
   have e3:wrap64 (b*d)=b*d:=wrap_id (by omega) (by omega)
   have e4:wrap64 (a*d+c*b)=a*d+c*b:=wrap_id (by omega) (by omega)
   have e5:wrap64 (a*c)=a*c:=wrap_id (by omega) (by omega)
   simp only [e1,e2,e3,e4,e5]
   exact Ev.bind (redI_ev (a*d+c*b) (b*d) (by omega) (by omega) (by omega) (by omega) (by omega)) (Ev.now _)
  ·simp only [if_neg c2]
   exact Ev.now _
 ·simp only [if_neg c1]
  rw [if_neg fun h=>c1 h.1]
  exact Ev.now _
def timesOf (a b c d:Int):Int × Int × Bool:=if isR a b=true∧isR c d=true then redOf (a*c) (b*d) else (0,0,false)
theorem ITimes_ev (a b c d:Int):Ev (fun k=>impl_TimesRatios.f k a b c d) (timesOf a b c d):=by
 unfold impl_TimesRatios.f timesOf
 refine Ev.bind (isRI_ev a b) ?_
 by_cases c1:isR a b=true
 ·simp only [c1,if_true,true_and]
  refine Ev.bind (isRI_ev c d) ?_
  by_cases c2:isR c d=true
  ·simp only [c2,if_true]
   have h1:=(isR_iff a b).1 c1
   have h2:=(isR_iff c d).1 c2
   have m1:=mul_bd (x:=a) (y:=d) (A:=1000000000) (B:=1000000000) (by omega) (by omega)
   have m2:=mul_bd (x:=c) (y:=b) (A:=1000000000) (B:=1000000000) (by omega) (by omega)
   have m3:=mul_bd (x:=b) (y:=d) (A:=1000000000) (B:=1000000000) (by omega) (by omega)
   have m4:=mul_bd (x:=a) (y:=c) (A:=1000000000) (B:=1000000000) (by omega) (by omega)
   have m5:=den_pos h1.2.1.1 h2.2.1.1
   have e1:wrap64 (a*d)=a*d:=wrap_id (by omega) (by omega)
   have e2:wrap64 (c*b)=c*b:=wrap_id (by omega) (by omega)
   have e3:wrap64 (b*d)=b*d:=wrap_id (by omega) (by omega)
   have e4:wrap64 (a*d+c*b)=a*d+c*b:=wrap_id (by omega) (by omega)
   have e5:wrap64 (a*c)=a*c:=wrap_id (by omega) (by omega)
   simp only [e1,e2,e3,e4,e5]
   exact Ev.bind (redI_ev (a*c) (b*d) (by omega) (by omega) (by omega) (by omega) (by omega)) (Ev.now _)
  ·simp only [if_neg c2]
   exact Ev.now _
 ·simp only [if_neg c1]
  rw [if_neg fun h=>c1 h.1]
  exact Ev.now _
def Rep (D s a b:Int):Prop:=isR a b=true∧s*b=a*D
theorem Rep.ex (D s:Int) (hD:0<D) (hD1:D≤1000000000) (hs:s.natAbs≤1000000000):∃a b,Rep D s a b:=by
 obtain ⟨a,b,_,h1,h2⟩:=redOf_small s D hD hD1 hs
 exact ⟨a,b,h1,h2⟩
theorem Rep.red {D s a b:Int} (h:Rep D s a b) (n d:Int) (hD:0<D) (hd:d≠0) (e:n*D=s*d):redOf n d=(a,b,true):=by
 refine redOf_of n d a b hd h.1 ?_
 have h2:D*(n*b)=D*(a*d):=by
  calc D*(n*b)=n*D*b:=by rw [← Int.mul_assoc,Int.mul_comm D n]
   _=s*b*d:=by rw [e,Int.mul_right_comm]
   _=D*(a*d):=by rw [h.2,Int.mul_comm a D,Int.mul_assoc]
 exact Int.eq_of_mul_eq_mul_left (by omega) h2
theorem Rep.times {D s a b:Int} (h:Rep D s a b) (n:Int) (hD:0<D) (hD1:D≤1000000000) (hn:n.natAbs≤1000000000) (hs:(n*s).natAbs≤1000000000):∃c d,timesOf n 1 a b=(c,d,true)∧Rep D (n*s) c d:=by
 obtain ⟨c,d,hr⟩:=Rep.ex D (n*s) hD hD1 hs
 refine ⟨c,d,?_,hr⟩
 have h1:=(isR_iff a b).1 h.1
 unfold timesOf
 rw [if_pos ⟨(isR_iff n 1).2 ⟨by omega,by omega,by simp⟩,h.1⟩]
 refine hr.red (n*a) (1*b) hD (by omega) ?_
 rw [Int.one_mul,Int.mul_assoc,← h.2,Int.mul_assoc]
theorem Rep.add {D s t a b c d:Int} (h:Rep D s a b) (g:Rep D t c d) (hD:0<D) (hD1:D≤1000000000) (hs:(s+t).natAbs≤1000000000):∃e f,addOf a b c d=(e,f,true)∧Rep D (s+t) e f:=by
 obtain ⟨e,f,hr⟩:=Rep.ex D (s+t) hD hD1 hs
 refine ⟨e,f,?_,hr⟩
 have h1:=(isR_iff a b).1 h.1
 have h2:=(isR_iff c d).1 g.1
 unfold addOf
 rw [if_pos ⟨h.1,g.1⟩]
 have hp:0<b*d:=Int.mul_pos (by omega) (by omega)
 refine hr.red (a*d+c*b) (b*d) hD (by omega) ?_
 have k1:a*d*D=s*(b*d):=by rw [Int.mul_right_comm,← h.2,Int.mul_assoc]
 have k2:c*b*D=t*(b*d):=by rw [Int.mul_right_comm,← g.2,Int.mul_assoc,Int.mul_comm d b]
 rw [Int.add_mul,k1,k2,Int.add_mul]
theorem Rep.eq {D s a b c d:Int} (h:Rep D s a b) (g:Rep D s c d) (hD:0<D):a=c∧b=d:=by
 have h1:=h.red s D hD (by omega) rfl
 have h2:=g.red s D hD (by omega) rfl
 rw [h1] at h2
 simp only [Prod.mk.injEq,and_true] at h2
 exact h2
def dotR:List Int→List S26→Int→Int→Int × Int × Bool
 | n :: row,q :: x,a,b=>if (timesOf n 1 q.f0 q.f1).2.2=true then (if (addOf a b (timesOf n 1 q.f0 q.f1).1 (timesOf n 1 q.f0 q.f1).2.1).2.2=true then dotR row x (addOf a b (timesOf n 1 q.f0 q.f1).1 (timesOf n 1 q.f0 q.f1).2.1).1 (addOf a b (timesOf n 1 q.f0 q.f1).1 (timesOf n 1 q.f0 q.f1).2.1).2.1 else (0,0,false)) else (0,0,false)
 | _,_,a,b=>(a,b,true)
theorem dotR_nil (row:List Int) (x:List S26) (a b:Int) (h:row=[]∨x=[]):dotR row x a b=(a,b,true):=by
 rcases h with rfl|rfl
 ·unfold dotR;rfl
 ·cases row<;>(unfold dotR;rfl)
theorem dotR_rep (D:Int) (N:V) (row:List Int) (x:List S26) (n:Nat) (hr:row.length=n) (hx:x.length=n) (hD:0<D) (hD1:D≤1000000000) (hrow:∀j,(at0 row j).natAbs≤1000)
  (hN:∀j (h:j<x.length),Rep D (N j) x[j].f0 x[j].f1) (hs:∀j,j<n→(at0 row j*N j).natAbs≤1000000000) (hS:∀i,i≤n→(dotN N (at0 row) i).natAbs≤1000000000) (d:Nat):∀(i:Nat) (a b:Int),n-i=d→i≤n→Rep D (dotN N (at0 row) i) a b→
  ∃e f,dotR (row.drop i) (x.drop i) a b=(e,f,true)∧Rep D (dotN N (at0 row) n) e f:=by
 induction d with
|zero=>
  intro i a b hd hi h
  have e:i=n:=by omega
  subst e
  exact ⟨a,b,dotR_nil _ _ _ _ (.inl (List.drop_eq_nil_of_le (by omega))),h⟩
|succ d ih=>
  intro i a b hd hi h
  have h1:i<row.length:=by omega
  have h2:i<x.length:=by omega
  obtain ⟨c,e,ht,hr1⟩:=(hN i h2).times row[i] hD hD1 (by have:=hrow i;rw [at0_lt h1] at this;omega) (by have:=hs i (by omega);rw [at0_lt h1] at this;exact this)
  rw [← at0_lt h1,Int.mul_comm] at hr1
  obtain ⟨p,q,ha,hr2⟩:=h.add hr1 hD hD1 (hS (i+1) (by omega))
  obtain ⟨u,v,hu,hv⟩:=ih (i+1) p q (by omega) (by omega) hr2
  refine ⟨u,v,?_,hv⟩
  rw [List.drop_eq_getElem_cons h1,List.drop_eq_getElem_cons h2]
  unfold dotR
  rw [ht]
  dsimp only
  rw [ha]
  simpa using hu
def solN (n:Nat) (D:Int) (L:List (List Int × Nat)):V:=fun j=>-(at0 (L.foldl (nvStep D n) (List.replicate n 0)) j)
theorem dotN_neg (a w:V):∀n:Nat,dotN (fun j=>-(a j)) w n = -(dotN a w n)
 | 0=>rfl
 | n+1=>by
  simp only [dotN]
  rw [dotN_neg a w n,Int.neg_mul]
  omega
theorem solN_dot (n:Nat) (D:Int) (L:List (List Int × Nat)) (w:V) (hn:(L.map (·.2)).Nodup) (hL:∀p∈L,p.2<n):dotN (solN n D L) w n=sumOver (fun p=>D / at0 p.1 p.2*w p.2*at0 p.1 n) L:=by
 unfold solN
 rw [dotN_neg,nv_dot n D n w L _ hn (by simp) fun p hp=>⟨hL p hp,at0_rep n p.2⟩,dotN_zero n fun j _=>Or.inl (at0_rep n j)]
 omega
theorem solN_bound (n:Nat) (D:Int) (L:List (List Int × Nat)) (B:Nat) (h:∀p∈L,p.2<n∧(D / at0 p.1 p.2*at0 p.1 n).natAbs≤B) (j:Nat):(solN n D L j).natAbs≤B:=by
 unfold solN
 rw [Int.natAbs_neg]
 exact nv_at D n L _ B (fun p hp=>⟨by simpa using (h p hp).1,(h p hp).2⟩) (fun j=>by rw [at0_rep];exact Nat.zero_le _) j
theorem sol_rep (n:Nat) (D:Int) (hD:0<D):∀(L:List (List Int × Nat)) (v:List Int) (out:List S26),(∀p∈L,PivOk n p∧at0 p.1 p.2∣D)→v.length=n→out.length=n→(∀j (h:j<out.length),Rep D (-(at0 v j)) out[j].f0 out[j].f1)→
  ∀j (h:j<(L.foldl (solStep n) out).length),Rep D (-(at0 (L.foldl (nvStep D n) v) j)) (L.foldl (solStep n) out)[j].f0 (L.foldl (solStep n) out)[j].f1
|[],v,out,_,_,_,h=>h
|p :: L,v,out,hL,hv,ho,h=>by
  obtain ⟨hp,hdv⟩:=hL p (by simp)
  obtain ⟨a,b,he,hf,hR,hab⟩:=fr_eq hp
  have hcol:=hp.col
  have hpos:=hp.pos
  refine sol_rep n D hD L (nvStep D n v p) (solStep n out p) (fun q hq=>hL q (by simp [hq])) (by simp [nvStep,hv]) (by simp [solStep,ho]) fun j hj=>?_
  have hj':j<out.length:=by simpa [solStep] using hj
  have hs:=at0_set v p.2 (-(at0 p.1 n)*(D / at0 p.1 p.2)) (by omega) j
  have hget:(solStep n out p)[j]=if p.2=j then fr n p else out[j]:=by
   show (out.set p.2 (fr n p))[j]'(by simpa using hj')=_
   rw [List.getElem_set]
  rw [hget]
  show Rep D (-(at0 (v.set p.2 _) j)) _ _
  rw [hs]
  by_cases e:p.2=j
  ·rw [if_pos e,if_pos e.symm,hf]
   refine ⟨hR,?_⟩
   obtain ⟨u,hu⟩:=hdv
   have hq:D / at0 p.1 p.2=u:=by rw [hu];exact Int.mul_ediv_cancel_left _ (by omega)
   rw [hq,show -(-(at0 p.1 n)*u)=at0 p.1 n*u by rw [Int.neg_mul,Int.neg_neg]]
   show at0 p.1 n*u*b=a*D
   rw [hu,Int.mul_right_comm,hab,Int.mul_assoc]
  ·rw [if_neg e,if_neg fun h=>e h.symm]
   exact h j hj'
structure SolFacts (m : List (List Int)) (v : List Int) (n : Nat) (P : List (List Int × Nat)) (D : Int) (B : Nat) : Prop where
 hD : 0 < D
 hD2 : D ≤ 46080
 hB : B ≤ 23040000
 dvd : ∀ p ∈ P.reverse, at0 p.1 p.2 ∣ D
 val : ∀ p ∈ P.reverse, (D / at0 p.1 p.2 * at0 p.1 n).natAbs ≤ B
 nod : (P.reverse.map (·.2)).Nodup
 piv : ∀ p ∈ P.reverse, PivOk n p
 len : P.reverse.length ≤ 6
theorem Solved.facts0 {m:List (List Int)} {v:List Int} {n:Nat} {P:List (List Int × Nat)} {Q:List (List Int)} (h:Solved m v n P Q) {D:Int} {B:Nat} (h0:0<D) (h1:D≤46080) (hB:B≤23040000) (hh:∀p∈P,∃e:Int,0<e∧D=at0 p.1 p.2*e∧(e*at0 p.1 n).natAbs≤B):SolFacts m v n P D B:=by
 have hl:=h.red.len
 have hle:=h.okm.le6
 refine ⟨h0,h1,hB,fun p hp=>?_,fun p hp=>?_,?_,fun p hp=>h.pivok p (List.mem_reverse.1 hp),by rw [List.length_reverse];omega⟩
 ·obtain ⟨e,_,hDe,_⟩:=hh p (List.mem_reverse.1 hp)
  exact ⟨e,hDe⟩
 ·obtain ⟨e,_,hDe,hb⟩:=hh p (List.mem_reverse.1 hp)
  have hpos:=h.red.pos p (List.mem_reverse.1 hp)
  rw [show D / at0 p.1 p.2=e by rw [hDe];exact Int.mul_ediv_cancel_left _ (by omega)]
  exact hb
 ·rw [List.map_reverse]
  unfold List.Nodup
  rw [List.pairwise_reverse]
  exact h.red.st.piv.1.imp fun h=>Ne.symm h
theorem Solved.facts {m:List (List Int)} {v:List Int} {n:Nat} {P:List (List Int × Nat)} {Q:List (List Int)} (h:Solved m v n P Q):∃D,SolFacts m v n P D 23040000:=by
 obtain ⟨D,h0,h1,hh⟩:=h.red.small_piv (m:=n) (fun o ho j=>by
  obtain ⟨r,hr,rfl⟩:=ho
  exact h.oka.small r hr j) (Nat.le_refl _) h.okm.le6
 exact ⟨D,h.facts0 h0 h1 (by omega) fun p hp=>by
  obtain ⟨e,he,hDe,_,hj2⟩:=hh p hp
  exact ⟨e,he,hDe,hj2 n⟩⟩
theorem SolFacts.rep {m:List (List Int)} {v:List Int} {n:Nat} {P:List (List Int × Nat)} {D:Int} {B:Nat} (h:SolFacts m v n P D B):(solOf n P.reverse).length=n∧∀j (hj:j<(solOf n P.reverse).length),Rep D (solN n D P.reverse j) (solOf n P.reverse)[j].f0 (solOf n P.reverse)[j].f1:=by
 refine ⟨by unfold solOf;rw [solStep_len];simp,?_⟩
 unfold solOf solN
 refine sol_rep n D h.hD P.reverse _ _ (fun p hp=>⟨h.piv p hp,h.dvd p hp⟩) (by simp) (by simp) fun j hj=>?_
 rw [at0_rep]
 refine ⟨?_,?_⟩
 ·rw [List.getElem_replicate]
  exact (isR_iff 0 1).2 ⟨by omega,by omega,by simp⟩
 ·simp
theorem SolFacts.small {m:List (List Int)} {v:List Int} {n:Nat} {P:List (List Int × Nat)} {D:Int} {B:Nat} (h:SolFacts m v n P D B) (j:Nat):(solN n D P.reverse j).natAbs≤B:=
 solN_bound n D P.reverse B (fun p hp=>⟨(h.piv p hp).col,h.val p hp⟩) j
theorem rep_zero (D:Int):Rep D 0 0 1:=⟨(isR_iff 0 1).2 ⟨by omega,by omega,by simp⟩,by simp⟩
theorem dotR_small {D:Int} {N:V} {row:List Int} {x:List S26} {n:Nat} (hr:row.length=n) (hx:x.length=n) (hn:n≤6) (hD:0<D) (hD1:D≤1000000000) (hrow:∀j,j<n→(at0 row j).natAbs≤2)
  (hN:∀j (h:j<x.length),Rep D (N j) x[j].f0 x[j].f1) (hs:∀j,(N j).natAbs≤80000000):∃e f,dotR row x 0 1=(e,f,true)∧Rep D (dotN N (at0 row) n) e f:=by
 have h2:∀j,j<n→(at0 row j*N j).natAbs≤160000000:=fun j hj=>by
  rw [Int.natAbs_mul]
  exact Nat.le_trans (Nat.mul_le_mul (hrow j hj) (hs j)) (by omega)
 have h3:∀j,(at0 row j).natAbs≤1000:=fun j=>by
  rcases Nat.lt_or_ge j n with h|h
  ·have:=hrow j h;omega
  ·rw [at0_out (by omega)];simp
 have:=dotR_rep D N row x n hr hx hD hD1 h3 hN (fun j hj=>by have:=h2 j hj;omega) (fun i hi=>by
  have h4:=dotN_bound N (at0 row) 160000000 i fun j hj=>by rw [Int.mul_comm];exact h2 j (by omega)
  have h5:i*160000000≤6*160000000:=Nat.mul_le_mul_right _ (by omega)
  omega) n 0 0 1 (by omega) (by omega) (by simpa [dotN] using rep_zero D)
 simpa using this
theorem big_eq (l:List Int):laws_big.f l=some (decide ((l.length:Int) > 1048576)):=rfl
theorem and255 (x:Int):0≤Go.bits .and .i64 x 255∧Go.bits .and .i64 x 255≤255:=by
 have h:(BitVec.ofInt IntKind.i64.bits x &&& BitVec.ofInt IntKind.i64.bits 255).toNat≤255:=by
  rw [BitVec.toNat_and]
  exact Nat.le_trans Nat.and_le_right (by decide)
 have e:Go.bits .and .i64 x 255=IntKind.i64.wrap ((BitVec.ofInt IntKind.i64.bits x &&& BitVec.ofInt IntKind.i64.bits 255).toNat:Int):=rfl
 rw [e,Go.IntKind.wrap_i64]
 omega
def Cur (b:List Int) (s:Int):Prop:=0≤s∧s≤b.length
theorem l1Byte_ok (b:List Int) (hb:b.length≤1048576) (s h:Int) (hs:Cur b s):∃x s' h',spec_l1Byte.f b s h=some (x,s',h')∧0≤x∧x≤255∧Cur b s':=by
 have hs0:=hs.1
 have hs1:=hs.2
 unfold spec_l1Byte.f
 by_cases c:s<(b.length:Int)
 ·rw [if_pos c,if_pos hs.1]
  have hw:wrap64 (s+1)=s+1:=wrap_id (by omega) (by omega)
  rw [hw]
  exact ⟨_,_,_,rfl,(and255 _).1,(and255 _).2,⟨by omega,by omega⟩⟩
 ·rw [if_neg c]
  exact ⟨_,_,_,rfl,(and255 _).1,(and255 _).2,hs⟩
theorem l1Below_ok (b:List Int) (hb:b.length≤1048576) (s h n:Int) (hs:Cur b s):∃x s' h',spec_l1Below.f b s h n=some (x,s',h')∧0≤x∧(0<n→x<n)∧Cur b s':=by
 unfold spec_l1Below.f
 by_cases c:n≤0
 ·rw [if_pos c];exact ⟨0,s,h,rfl,by omega,fun h=>by omega,hs⟩
 ·rw [if_neg c]
  by_cases c2:n≤256
  ·rw [if_pos c2]
   obtain ⟨x,s',h',e,h0,h1,hc⟩:=l1Byte_ok b hb s h hs
   rw [e]
   simp only [Option.bind_some]
   rw [if_neg (by omega),Int.tmod_eq_emod_of_nonneg h0]
   exact ⟨_,_,_,rfl,Int.emod_nonneg _ (by omega),fun h=>Int.emod_lt_of_pos _ h,hc⟩
  ·rw [if_neg c2]
   obtain ⟨x,s1,h1,e1,a0,a1,hc1⟩:=l1Byte_ok b hb s h hs
   obtain ⟨y,s2,h2,e2,b0,b1,hc2⟩:=l1Byte_ok b hb s1 h1 hc1
   obtain ⟨z,s3,h3,e3,d0,d1,hc3⟩:=l1Byte_ok b hb s2 h2 hc2
   simp only [e1,e2,e3,Option.bind_some]
   rw [if_neg (by omega),wrap_id (x:=x*65536) (by omega) (by omega),wrap_id (x:=y*256) (by omega) (by omega),wrap_id (x:=x*65536+y*256) (by omega) (by omega),wrap_id (x:=x*65536+y*256+z) (by omega) (by omega),Int.tmod_eq_emod_of_nonneg (by omega)]
   exact ⟨_,_,_,rfl,Int.emod_nonneg _ (by omega),fun h=>Int.emod_lt_of_pos _ h,hc3⟩
theorem l1New_l0 (l:List Int) (hl:l.length≤1048576) (d:Nat):∀(i:Nat) (h:Int),l.length-i=d→∃h',Ev (fun k=>spec_l1New.l0 k l h (i:Int)) (l,0,h'):=by
 induction d with
|zero=>
  intro i h hd
  refine ⟨h,Ev.step (f:=fun _=>some (l,0,h)) (fun k=>?_) (Ev.now _)⟩
  simp only [spec_l1New.l0]
  rw [if_neg (by omega)]
|succ d ih=>
  intro i h hd
  by_cases c:(i:Int)<4000
  ·obtain ⟨h',e⟩:=ih (i+1) (Go.bits .and .i64 (wrap64 ((wrap64 ((wrap64 (h*137))+(wrap64 (rd l (i:Int)))))+11)) 1073741823) (by omega)
   refine ⟨h',Ev.step (f:=fun k=>spec_l1New.l0 k l _ ((i+1:Nat):Int)) (fun k=>?_) e⟩
   simp only [spec_l1New.l0]
   rw [if_pos (by omega),if_pos c,if_pos (by omega),wrap_id (x:=(i:Int)+1) (by omega) (by omega)]
   rfl
  ·refine ⟨h,Ev.step (f:=fun _=>some (l,0,h)) (fun k=>?_) (Ev.now _)⟩
   simp only [spec_l1New.l0]
   rw [if_pos (by omega),if_neg c]
theorem l1New_ev (l:List Int) (hl:l.length≤1048576):∃h',Ev (fun k=>spec_l1New.f k l) (l,0,h'):=l1New_l0 l hl l.length 0 _ (by omega)
theorem cur0 (l:List Int):Cur l 0:=⟨by omega,by omega⟩
theorem l1Once_ok (b:List Int) (hb:b.length≤1048576) (s h n:Int) (hs:Cur b s):∃(t:Bool) (s' h':Int),spec_l1Once.f b s h n=some (t,s',h')∧Cur b s':=by
 obtain ⟨x,s',h',e,_,_,hc⟩:=l1Below_ok b hb s h n hs
 unfold spec_l1Once.f
 rw [e]
 exact ⟨_,s',h',rfl,hc⟩
theorem l1Int_ok (b:List Int) (hb:b.length≤1048576) (s h:Int) (l:List Int) (hl:0<l.length) (hs:Cur b s):∃x s' h',spec_l1Int.f b s h l=some (x,s',h')∧x∈l∧Cur b s':=by
 obtain ⟨x,s',h',e,h0,h1,hc⟩:=l1Below_ok b hb s h (l.length:Int) hs
 have h1:=h1 (by omega)
 unfold spec_l1Int.f
 rw [e]
 simp only [Option.bind_some]
 rw [if_pos h0,if_pos h1]
 refine ⟨_,s',h',rfl,?_,hc⟩
 have hx:x.toNat<l.length:=by omega
 have:=rd_nat l x.toNat hx
 rw [Int.toNat_of_nonneg h0] at this
 rw [this]
 exact List.getElem_mem hx
theorem l5Row_l0 (b:List Int) (hb:b.length≤1048576) (n:Nat) (hn:n≤1000) (d:Nat):∀(i:Nat) (r:List Int) (s h:Int),n-i=d→i≤n→r.length=i→Cur b s→∃(r':List Int) (s' h':Int),Ev (fun k=>spec_l5Row.l0 k (n:Int) r (i:Int) b s h) (r',s',h')∧r'.length=n∧Cur b s':=by
 induction d with
|zero=>
  intro i r s h hd hi hr hs
  refine ⟨r,s,h,Ev.step (f:=fun _=>some (r,s,h)) (fun k=>?_) (Ev.now _),by omega,hs⟩
  simp only [spec_l5Row.l0]
  rw [if_neg (by omega)]
|succ d ih=>
  intro i r s h hd hi hr hs
  obtain ⟨x,s1,h1,e1,_,c1⟩:=l1Int_ok b hb s h [0,0,1,1,1,(-1),2,(-2)] (by simp) hs
  obtain ⟨r',s',h',ev,hl,hc⟩:=ih (i+1) (r ++ [x]) s1 h1 (by omega) (by omega) (by simp [hr]) c1
  refine ⟨r',s',h',Ev.step (f:=fun k=>spec_l5Row.l0 k (n:Int) (r ++ [x]) ((i+1:Nat):Int) b s1 h1) (fun k=>?_) ev,hl,hc⟩
  simp only [spec_l5Row.l0]
  rw [if_pos (by omega),e1]
  simp only [Option.bind_some]
  rw [if_pos (by omega),wrap_id (by omega) (by omega)]
  rfl
theorem l5Row_ev (b:List Int) (hb:b.length≤1048576) (n:Nat) (hn:n≤1000) (s h:Int) (hs:Cur b s):∃(r':List Int) (s' h':Int),Ev (fun k=>spec_l5Row.f k b s h (n:Int)) (r',s',h')∧r'.length=n∧Cur b s':=by
 unfold spec_l5Row.f
 exact l5Row_l0 b hb n hn n 0 [] s h (by omega) (by omega) rfl hs
theorem l5Draw_l0 (b:List Int) (hb:b.length≤1048576) (n:Nat) (hn:n≤1000) (i:Nat):∀(m:List (List Int)) (s h:Int),m.length+i≤1000→(∀r∈m,r.length=n)→Cur b s→∃(m':List (List Int)) (s' h':Int),Ev (fun k=>spec_l5Draw.l0 k (n:Int) m (i:Int) b s h) (m',s',h')∧m'.length=m.length+i∧(∀r∈m',r.length=n)∧Cur b s':=by
 induction i with
|zero=>
  intro m s h hm hr hs
  refine ⟨m,s,h,Ev.step (f:=fun _=>some (m,s,h)) (fun k=>?_) (Ev.now _),by omega,hr,hs⟩
  simp only [spec_l5Draw.l0]
  rw [if_neg (by omega)]
|succ i ih=>
  intro m s h hm hr hs
  obtain ⟨x,s1,h1,e1,hx,c1⟩:=l5Row_ev b hb n hn s h hs
  obtain ⟨m',s',h',ev,hl,hm',hc⟩:=ih (m ++ [x]) s1 h1 (by simp;omega) (fun r hr'=>by
   rcases List.mem_append.1 hr' with h|h
   ·exact hr r h
   ·rw [List.mem_singleton.1 h];exact hx) c1
  refine ⟨m',s',h',Ev.step (f:=fun k=>(spec_l5Row.f k b s h (n:Int)).bind fun bt=>spec_l5Draw.l0 k (n:Int) (m ++ [bt.1]) (i:Int) b bt.2.1 bt.2.2) (fun k=>?_) (Ev.bind e1 ev),by rw [hl];simp;omega,hm',hc⟩
  simp only [spec_l5Draw.l0]
  rw [if_pos (by omega),wrap_id (by omega) (by omega)]
  simp only [if_pos (show m.length<5864062014805 by omega),show ((i+1:Nat):Int)-1=(i:Int) by omega]
theorem l5Draw_ev (b:List Int) (hb:b.length≤1048576) (n:Nat) (hn:n≤1000) (s h:Int) (hs:Cur b s):∃(m':List (List Int)) (s' h':Int),Ev (fun k=>spec_l5Draw.f k b s h (n:Int)) (m',s',h')∧m'.length≤6∧(∀r∈m',r.length=n)∧Cur b s':=by
 obtain ⟨x,s1,h1,e1,x0,x1,c1⟩:=l1Below_ok b hb s h 7 hs
 have x2:=x1 (by decide)
 obtain ⟨i,rfl⟩:=Int.eq_ofNat_of_zero_le x0
 obtain ⟨m',s',h',ev,hl,hm',hc⟩:=l5Draw_l0 b hb n hn i [] s1 h1 (by simp;omega) (by simp) c1
 refine ⟨m',s',h',?_,by rw [hl];simp;omega,hm',hc⟩
 unfold spec_l5Draw.f
 simp only [e1,Option.bind_some]
 exact ev
theorem l5Any_l0 (b:List Int) (hb:b.length≤1048576) (n:Nat) (hn:n≤1000) (d:Nat):∀(m:List (List Int)) (s h:Int),m.length+d=13→(∀r∈m,r.length=n)→Cur b s→∃(m':List (List Int)) (s' h':Int),Ev (fun k=>spec_l5Any.l0 k (n:Int) m b s h) (m',s',h')∧m'.length=13∧(∀r∈m',r.length=n)∧Cur b s':=by
 induction d with
|zero=>
  intro m s h hm hr hs
  refine ⟨m,s,h,Ev.step (f:=fun _=>some (m,s,h)) (fun k=>?_) (Ev.now _),by omega,hr,hs⟩
  simp only [spec_l5Any.l0]
  rw [if_neg (by omega)]
|succ d ih=>
  intro m s h hm hr hs
  obtain ⟨x,s1,h1,e1,hx,c1⟩:=l5Row_ev b hb n hn s h hs
  obtain ⟨m',s',h',ev,hl,hm',hc⟩:=ih (m ++ [x]) s1 h1 (by simp;omega) (fun r hr'=>by
   rcases List.mem_append.1 hr' with h|h
   ·exact hr r h
   ·rw [List.mem_singleton.1 h];exact hx) c1
  refine ⟨m',s',h',Ev.step (f:=fun k=>(spec_l5Row.f k b s h (n:Int)).bind fun bt=>spec_l5Any.l0 k (n:Int) (m ++ [bt.1]) b bt.2.1 bt.2.2) (fun k=>?_) (Ev.bind e1 ev),hl,hm',hc⟩
  simp only [spec_l5Any.l0]
  rw [if_pos (by omega)]
  simp only [if_pos (show m.length<5864062014805 by omega)]
structure Drawn (m : List (List Int)) (n : Nat) : Prop where
 len : m.length ≤ 13
 fst : ∀ r ∈ m, r.length = n ∨ r.length = n + 1
 rest : ∀ i (h : i < m.length), 0 < i → m[i].length = n
theorem Drawn.of {m:List (List Int)} {n:Nat} (hl:m.length≤13) (h:∀r∈m,r.length=n):Drawn m n:=⟨hl,fun r hr=>.inl (h r hr),fun i hi _=>h _ (List.getElem_mem hi)⟩
theorem Drawn.set0 {m:List (List Int)} {n:Nat} (hl:m.length≤13) (h:∀r∈m,r.length=n) (x:List Int) (hx:x.length=n∨x.length=n+1):Drawn (m.set 0 x) n:=by
 refine ⟨by simpa using hl,fun r hr=>?_,fun i hi h0=>?_⟩
 ·rcases List.mem_or_eq_of_mem_set hr with h1|h1
  ·exact .inl (h r h1)
  ·rw [h1];exact hx
 ·rw [List.getElem_set_ne (by omega)]
  exact h _ (List.getElem_mem _)
theorem l5Any_ev (b:List Int) (hb:b.length≤1048576) (n:Nat) (hn0:0<n) (hn:n≤1000) (s h:Int) (hs:Cur b s):∃(m':List (List Int)) (s' h':Int),Ev (fun k=>spec_l5Any.f k b s h (n:Int)) (m',s',h')∧Drawn m' n∧Cur b s':=by
 obtain ⟨m,s1,h1,e1,hm,hr,c1⟩:=l5Draw_ev b hb n hn s h hs
 unfold spec_l5Any.f
 by_cases c0:(m.length:Int)=0
 ·refine ⟨m,s1,h1,Ev.bind e1 ?_,Drawn.of (by omega) hr,c1⟩
  simp only [if_pos c0]
  exact Ev.now _
 obtain ⟨x,s2,h2,e2,x0,x1,c2⟩:=l1Below_ok b hb s1 h1 9 c1
 have hrow:rd_L1 m 0=m[0]'(by omega):=rdL_nat m 0 (by omega)
 have hl0:(m[0]'(by omega)).length=n:=hr _ (List.getElem_mem _)
 by_cases k0:x=0
 ·refine ⟨m.set 0 (m[0]'(by omega) ++ [1]),s2,h2,Ev.bind e1 ?_,Drawn.set0 (by omega) hr _ (by simp [hl0]),c2⟩
  simp only [if_neg c0,e2,Option.bind_some,if_pos k0,if_pos (show 0<(m.length:Int) by omega),hrow]
  rw [if_pos (by omega)]
  exact Ev.now _
 by_cases k1:x=1
 ·obtain ⟨y,s3,h3,e3,_,c3⟩:=l1Int_ok b hb s2 h2 [3,(-3),9223372036854775807] (by simp) c2
  refine ⟨m.set 0 ((m[0]'(by omega)).set 0 y),s3,h3,Ev.bind e1 ?_,Drawn.set0 (by omega) hr _ (by simp [hl0]),c3⟩
  simp only [if_neg c0,e2,Option.bind_some,if_neg k0,if_pos k1,if_pos (show 0<(m.length:Int) by omega),hrow,e3]
  rw [if_pos (by omega)]
  exact Ev.now _
 by_cases k2:x=2
 ·obtain ⟨m',s',h',ev,hl,hm',hc⟩:=l5Any_l0 b hb n hn (13-m.length) m s2 h2 (by omega) hr c2
  refine ⟨m',s',h',Ev.bind e1 ?_,Drawn.of (by omega) hm',hc⟩
  simp only [if_neg c0,e2,Option.bind_some,if_neg k0,if_neg k1,if_pos k2]
  exact ev
 ·refine ⟨m,s2,h2,Ev.bind e1 ?_,Drawn.of (by omega) hr,c2⟩
  simp only [if_neg c0,e2,Option.bind_some,if_neg k0,if_neg k1,if_neg k2]
  exact Ev.now _
theorem l5Bits_l1 (b:List Int) (hb:b.length≤1048576) (n:Nat) (hn:n≤1000) (x1:Int) (m:List (List Int)) (i:Int) (hm:m.length≤1000) (Z:(List (List Int)) × Int × Int→Prop) (hend:∀(r:List Int) (s h:Int),r.length=n→Cur b s→∃z,Z z∧Ev (fun k=>spec_l5Bits.l0 k x1 (n:Int) (m ++ [r]) (wrap64 (i+1)) b s h) z) (d:Nat):∀(j:Nat) (r:List Int) (s h:Int),n-j=d→j≤n→r.length=j→Cur b s→∃z,Z z∧Ev (fun k=>spec_l5Bits.l1 k x1 (n:Int) m i r (j:Int) b s h) z:=by
 induction d with
|zero=>
  intro j r s h hd hj hr hs
  obtain ⟨z,hz,e⟩:=hend r s h (by omega) hs
  refine ⟨z,hz,Ev.step (fun k=>?_) e⟩
  simp only [spec_l5Bits.l1]
  rw [if_neg (by omega),if_pos (by omega)]
|succ d ih=>
  intro j r s h hd hj hr hs
  obtain ⟨x,s1,h1,e1,_,_,c1⟩:=l1Below_ok b hb s h 2 hs
  obtain ⟨z,hz,e⟩:=ih (j+1) (r ++ [x]) s1 h1 (by omega) (by omega) (by simp [hr]) c1
  refine ⟨z,hz,Ev.step (fun k=>?_) e⟩
  simp only [spec_l5Bits.l1]
  rw [if_pos (by omega),e1]
  simp only [Option.bind_some]
  rw [if_pos (by omega),wrap_id (by omega) (by omega)]
  rfl
theorem l5Bits_l0 (b:List Int) (hb:b.length≤1048576) (n q:Nat) (hn:n≤1000) (hq:q≤1000) (d:Nat):∀(i:Nat) (m:List (List Int)) (s h:Int),q-i=d→i≤q→m.length=i→(∀r∈m,r.length=n)→Cur b s→∃z:(List (List Int)) × Int × Int,(z.1.length=q∧(∀r∈z.1,r.length=n)∧Cur b z.2.1)∧Ev (fun k=>spec_l5Bits.l0 k (q:Int) (n:Int) m (i:Int) b s h) z:=by
 induction d with
|zero=>
  intro i m s h hd hi hm hr hs
  refine ⟨(m,s,h),⟨by show m.length=q;omega,hr,hs⟩,Ev.step (f:=fun _=>some (m,s,h)) (fun k=>?_) (Ev.now _)⟩
  simp only [spec_l5Bits.l0]
  rw [if_neg (by omega)]
|succ d ih=>
  intro i m s h hd hi hm hr hs
  obtain ⟨z,hz,e⟩:=l5Bits_l1 b hb n hn (q:Int) m (i:Int) (by omega) (fun z=>z.1.length=q∧(∀r∈z.1,r.length=n)∧Cur b z.2.1) (fun r s h hrl hs=>by
   obtain ⟨z,hz,e⟩:=ih (i+1) (m ++ [r]) s h (by omega) (by omega) (by simp [hm]) (fun x hx=>by
    rcases List.mem_append.1 hx with h|h
    ·exact hr x h
    ·rw [List.mem_singleton.1 h];exact hrl) hs
   refine ⟨z,hz,?_⟩
   rw [wrap_id (by omega) (by omega)]
   exact e) n 0 [] s h (by omega) (by omega) rfl hs
  refine ⟨z,hz,Ev.step (fun k=>?_) e⟩
  simp only [spec_l5Bits.l0]
  rw [if_pos (by omega)]
  rfl
theorem l5Bits_ev (b:List Int) (hb:b.length≤1048576) (n q:Nat) (hn:n≤1000) (hq:q≤1000) (s h:Int) (hs:Cur b s):∃(m:List (List Int)) (s' h':Int),Ev (fun k=>spec_l5Bits.f k b s h (q:Int) (n:Int)) (m,s',h')∧m.length=q∧(∀r∈m,r.length=n)∧Cur b s':=by
 obtain ⟨⟨m,s',h'⟩,⟨h1,h2,h3⟩,e⟩:=l5Bits_l0 b hb n q hn hq q 0 [] s h (by omega) (by omega) rfl (by simp) hs
 exact ⟨m,s',h',e,h1,h2,h3⟩
theorem dotAny_l0 (a x:List Int) (ha:a.length≤1000) (d:Nat):∀(i:Nat) (s:Int),a.length-i=d→∃t,Ev (fun k=>spec_DotOf.l0 k a x s (i:Int)) t:=by
 induction d with
|zero=>
  intro i s hd
  refine ⟨s,Ev.step (f:=fun _=>some s) (fun k=>?_) (Ev.now _)⟩
  simp only [spec_DotOf.l0]
  rw [if_neg (by omega)]
|succ d ih=>
  intro i s hd
  by_cases h:(i:Int)<(x.length:Int)
  ·obtain ⟨t,e⟩:=ih (i+1) (wrap64 (s+(wrap64 ((rd a (i:Int))*(rd x (i:Int)))))) (by omega)
   refine ⟨t,Ev.step (fun k=>?_) e⟩
   simp only [spec_DotOf.l0]
   rw [if_pos (by omega),if_pos h,if_pos (by omega),wrap_id (x:=(i:Int)+1) (by omega) (by omega)]
   rfl
  ·refine ⟨s,Ev.step (f:=fun _=>some s) (fun k=>?_) (Ev.now _)⟩
   simp only [spec_DotOf.l0]
   rw [if_pos (by omega),if_neg h]
theorem l6Draw_l1 (b:List Int) (m:List (List Int)) (x:List Int) (hm:m.length≤1000) (hr:∀r∈m,r.length≤1000) (s h:Int) (d:Nat):∀(i:Nat) (v:List Int),m.length-i=d→i≤m.length→v.length=i→∃v':List Int,Ev (fun k=>spec_l6Draw.l1 k m x v (i:Int) b s h) (m,v',s,h)∧v'.length=m.length:=by
 induction d with
|zero=>
  intro i v hd hi hv
  refine ⟨v,Ev.step (f:=fun _=>some (m,v,s,h)) (fun k=>?_) (Ev.now _),by omega⟩
  simp only [spec_l6Draw.l1]
  rw [if_neg (by omega)]
|succ d ih=>
  intro i v hd hi hv
  have hi2:i<m.length:=by omega
  obtain ⟨t,et⟩:=dotAny_l0 m[i] x (hr _ (List.getElem_mem hi2)) m[i].length 0 0 (by omega)
  obtain ⟨v',e,hl⟩:=ih (i+1) (v ++ [t]) (by omega) (by omega) (by simp [hv])
  refine ⟨v',Ev.step (f:=fun k=>(spec_DotOf.f k m[i] x).bind fun t=>spec_l6Draw.l1 k m x (v ++ [t]) ((i+1:Nat):Int) b s h) (fun k=>?_) (Ev.bind et e),hl⟩
  simp only [spec_l6Draw.l1]
  rw [if_pos (by omega),if_pos (by omega),rdL_nat m i hi2,wrap_id (by omega) (by omega)]
  simp only [if_pos (show v.length<17592186044416 by omega)]
  rfl
theorem l6Draw_l0 (b:List Int) (hb:b.length≤1048576) (n:Nat) (hn:n≤1000) (m:List (List Int)) (hm:m.length≤1000) (hr:∀r∈m,r.length≤1000) (d:Nat):∀(i:Nat) (x:List Int) (s h:Int),n-i=d→i≤n→x.length=i→Cur b s→∃(v':List Int) (s' h':Int),Ev (fun k=>spec_l6Draw.l0 k (n:Int) m x (i:Int) b s h) (m,v',s',h')∧v'.length=m.length∧Cur b s':=by
 induction d with
|zero=>
  intro i x s h hd hi hx hs
  obtain ⟨v',e,hl⟩:=l6Draw_l1 b m x hm hr s h m.length 0 [] (by omega) (by omega) rfl
  refine ⟨v',s,h,Ev.step (fun k=>?_) e,hl,hs⟩
  simp only [spec_l6Draw.l0]
  rw [if_neg (by omega)]
  rfl
|succ d ih=>
  intro i x s h hd hi hx hs
  obtain ⟨y,s1,h1,e1,_,_,c1⟩:=l1Below_ok b hb s h 30 hs
  obtain ⟨v',s',h',e,hl,hc⟩:=ih (i+1) (x ++ [y]) s1 h1 (by omega) (by omega) (by simp [hx]) c1
  refine ⟨v',s',h',Ev.step (fun k=>?_) e,hl,hc⟩
  simp only [spec_l6Draw.l0]
  rw [if_pos (by omega),e1]
  simp only [Option.bind_some]
  rw [if_pos (by omega),wrap_id (by omega) (by omega)]
  rfl
theorem l6Draw_ev (b:List Int) (hb:b.length≤1048576) (n:Nat) (hn:n≤1000) (s h:Int) (hs:Cur b s):∃(m:List (List Int)) (v:List Int) (s' h':Int),Ev (fun k=>spec_l6Draw.f k b s h (n:Int)) (m,v,s',h')∧m.length≤6∧(∀r∈m,r.length=n)∧v.length≤6∧Cur b s':=by
 obtain ⟨x,s1,h1,e1,x0,x1,c1⟩:=l1Below_ok b hb s h 6 hs
 have x2:=x1 (by decide)
 obtain ⟨j,rfl⟩:=Int.eq_ofNat_of_zero_le x0
 have hw:wrap64 (1+(j:Int))=((j+1:Nat):Int):=by rw [wrap_id (by omega) (by omega)];omega
 obtain ⟨m,s2,h2,e2,hm,hr,c2⟩:=l5Bits_ev b hb n (j+1) hn (by omega) s1 h1 c1
 obtain ⟨v,s3,h3,e3,hv,c3⟩:=l6Draw_l0 b hb n hn m (by omega) (fun r h=>by rw [hr r h];omega) n 0 [] s2 h2 (by omega) (by omega) rfl c2
 refine ⟨m,v,s3,h3,?_,by omega,hr,by omega,c3⟩
 unfold spec_l6Draw.f
 simp only [e1,Option.bind_some,hw]
 exact Ev.bind e2 e3
theorem l6Any_j1 (b:List Int) (hb:b.length≤1048576) (m:List (List Int)) (v:List Int) (hv:v.length≤13) (s h:Int) (hs:Cur b s):∃(v':List Int) (s' h':Int),Ev (fun k=>spec_l6Any.j1 k m v b s h) (m,v',s',h')∧v'.length≤13∧Cur b s':=by
 by_cases c0:(v.length:Int)=0
 ·refine ⟨v,s,h,Ev.step (f:=fun _=>some (m,v,s,h)) (fun k=>?_) (Ev.now _),hv,hs⟩
  simp only [spec_l6Any.j1]
  rw [if_pos c0]
 obtain ⟨x,s1,h1,e1,_,_,c1⟩:=l1Below_ok b hb s h 9 hs
 by_cases k0:x=0
 ·obtain ⟨y,s2,h2,e2,_,c2⟩:=l1Int_ok b hb s1 h1 [1000,1001,(-1001),9223372036854775807] (by simp) c1
  refine ⟨v.set 0 y,s2,h2,Ev.step (f:=fun _=>some (m,v.set 0 y,s2,h2)) (fun k=>?_) (Ev.now _),by simpa using hv,c2⟩
  simp only [spec_l6Any.j1]
  rw [if_neg c0,e1]
  simp only [Option.bind_some,if_pos k0,e2,if_pos (show 0<(v.length:Int) by omega)]
  rfl
 by_cases k1:x=1
 ·refine ⟨v.drop 1,s1,h1,Ev.step (f:=fun _=>some (m,v.drop 1,s1,h1)) (fun k=>?_) (Ev.now _),by rw [List.length_drop];omega,c1⟩
  simp only [spec_l6Any.j1]
  rw [if_neg c0,e1]
  simp only [Option.bind_some,if_neg k0,if_pos k1]
  first
  |rfl
  |(rw [if_pos (by omega)];rfl)
  |(rw [if_pos (by omega),if_pos (by omega)];rfl)
  |(rw [if_pos (by omega),if_pos (by omega),if_pos (by omega)];rfl)
 by_cases k2:x=2
 ·have hw:wrap64 ((v.length:Int)-1)=((v.length-1:Nat):Int):=by rw [wrap_id (by omega) (by omega)];omega
  refine ⟨v.set (v.length-1) (wrap64 ((rd v ((v.length-1:Nat):Int))+1)),s1,h1,Ev.step (f:=fun _=>some (m,v.set (v.length-1) (wrap64 ((rd v ((v.length-1:Nat):Int))+1)),s1,h1)) (fun k=>?_) (Ev.now _),by simpa using hv,c1⟩
  simp only [spec_l6Any.j1]
  rw [if_neg c0,e1]
  simp only [Option.bind_some,if_neg k0,if_neg k1,if_pos k2,hw,Int.toNat_natCast]
  first
  |(rw [if_pos (by omega),if_pos (by omega)])
  |(rw [if_pos (by omega),if_pos (by omega),if_pos (by omega),if_pos (by omega)])
  |(rw [if_pos (by omega),if_pos (by omega),if_pos (by omega)])
 ·refine ⟨v,s1,h1,Ev.step (f:=fun _=>some (m,v,s1,h1)) (fun k=>?_) (Ev.now _),hv,c1⟩
  simp only [spec_l6Any.j1]
  rw [if_neg c0,e1]
  simp only [Option.bind_some,if_neg k0,if_neg k1,if_neg k2]
theorem l6Any_l0 (b:List Int) (hb:b.length≤1048576) (m:List (List Int)) (hm:m.length≤13) (d:Nat):∀(i:Nat) (v:List Int) (s h:Int),m.length-i=d→i≤m.length→v.length=i→Cur b s→∃(v':List Int) (s' h':Int),Ev (fun k=>spec_l6Any.l0 k m v (i:Int) b s h) (m,v',s',h')∧v'.length≤13∧Cur b s':=by
 induction d with
|zero=>
  intro i v s h hd hi hv hs
  obtain ⟨v',s',h',e,hl,hc⟩:=l6Any_j1 b hb m v (by omega) s h hs
  refine ⟨v',s',h',Ev.step (fun k=>?_) e,hl,hc⟩
  simp only [spec_l6Any.l0]
  rw [if_neg (by omega)]
|succ d ih=>
  intro i v s h hd hi hv hs
  obtain ⟨y,s1,h1,e1,_,c1⟩:=l1Int_ok b hb s h [0,1,5,(-7),12] (by simp) hs
  obtain ⟨v',s',h',e,hl,hc⟩:=ih (i+1) (v ++ [y]) s1 h1 (by omega) (by omega) (by simp [hv]) c1
  refine ⟨v',s',h',Ev.step (fun k=>?_) e,hl,hc⟩
  simp only [spec_l6Any.l0]
  rw [if_pos (by omega),e1]
  simp only [Option.bind_some]
  rw [if_pos (by omega),wrap_id (by omega) (by omega)]
  rfl
theorem drawVal_ev (b:List Int) (hb:b.length≤1048576):∃(m:List (List Int)) (v row:List Int),Ev (fun k=>spec_DrawValueOf.f k b) (m,v,row)∧m.length≤13∧(∀r∈m,r.length≤7)∧v.length≤13∧row.length≤6:=by
 obtain ⟨h0,e0⟩:=l1New_ev b hb
 obtain ⟨x,s1,h1,e1,x0,x1,c1⟩:=l1Below_ok b hb 0 h0 6 (cur0 b)
 have x2:=x1 (by decide)
 obtain ⟨j,rfl⟩:=Int.eq_ofNat_of_zero_le x0
 have hw:wrap64 (1+(j:Int))=((j+1:Nat):Int):=by rw [wrap_id (by omega) (by omega)];omega
 have hany:∃(m:List (List Int)) (v:List Int) (s' h':Int),Ev (fun k=>spec_l6Any.f k b s1 h1 ((j+1:Nat):Int)) (m,v,s',h')∧m.length≤13∧(∀r∈m,r.length≤7)∧v.length≤13∧Cur b s':=by
  obtain ⟨m,v,s2,h2,e2,hm,hr,hv,c2⟩:=l6Draw_ev b hb (j+1) (by omega) s1 h1 c1
  obtain ⟨t,s3,h3,e3,c3⟩:=l1Once_ok b hb s2 h2 3 c2
  unfold spec_l6Any.f
  cases t with
 |false=>
   obtain ⟨v',s',h',e,hl,hc⟩:=l6Any_j1 b hb m v (by omega) s3 h3 c3
   refine ⟨m,v',s',h',Ev.bind e2 ?_,by omega,fun r h=>by rw [hr r h];omega,hl,hc⟩
   simp only [e3,Option.bind_some,Bool.false_eq_true,if_false]
   exact e
 |true=>
   obtain ⟨m2,s4,h4,e4,hd,c4⟩:=l5Any_ev b hb (j+1) (by omega) (by omega) s3 h3 c3
   obtain ⟨v',s',h',e,hl,hc⟩:=l6Any_l0 b hb m2 hd.len m2.length 0 [] s4 h4 (by omega) (by omega) rfl c4
   refine ⟨m2,v',s',h',Ev.bind e2 ?_,hd.len,fun r h=>by have:=hd.fst r h;omega,hl,hc⟩
   simp only [e3,Option.bind_some,if_true]
   exact Ev.bind e4 e
 obtain ⟨m,v,s2,h2,e2,hm,hr,hv,c2⟩:=hany
 obtain ⟨B,s3,h3,e3,hB,hBr,c3⟩:=l5Bits_ev b hb (j+1) 1 (by omega) (by omega) s2 h2 c2
 obtain ⟨t,s4,h4,e4,c4⟩:=l1Once_ok b hb s3 h3 3 c3
 have hB0:rd_L1 B 0=B[0]'(by omega):=rdL_nat B 0 (by omega)
 unfold spec_DrawValueOf.f
 cases t with
|false=>
  refine ⟨m,v,B[0]'(by omega),?_,hm,hr,hv,by rw [hBr _ (List.getElem_mem _)];omega⟩
  refine Ev.bind e0 ?_
  simp only [e1,Option.bind_some,hw]
  refine Ev.bind e2 ?_
  refine Ev.bind e3 ?_
  simp only [if_pos (show 0<(B.length:Int) by omega),e4,Option.bind_some,Bool.false_eq_true,if_false,hB0]
  exact Ev.now _
|true=>
  obtain ⟨r,s5,h5,e5,hrl,_⟩:=l5Row_ev b hb (j+1) (by omega) s4 h4 c4
  refine ⟨m,v,r,?_,hm,hr,hv,by omega⟩
  refine Ev.bind e0 ?_
  simp only [e1,Option.bind_some,hw]
  refine Ev.bind e2 ?_
  refine Ev.bind e3 ?_
  simp only [if_pos (show 0<(B.length:Int) by omega),e4,Option.bind_some,if_true]
  exact Ev.bind e5 (Ev.now _)
def allR (x:List S26):Bool:=x.all fun q=>isR q.f0 q.f1
def okRow (x:List S26) (p:List Int × Int):Bool:=(dotR p.1 x 0 1).2.2 && (((dotR p.1 x 0 1).1 == p.2) && ((dotR p.1 x 0 1).2.1 == 1))
def fitB (m:List (List Int)) (v:List Int) (x:List S26):Bool:=(List.zip m v).all (okRow x)
def fitOf (m:List (List Int)) (v:List Int) (x:List S26):Bool:=isSys m v (x.length:Int) && (allR x && fitB m v x)
theorem rdF (x:List S26) (i:Nat) (h:i<x.length):rd_T26 x (i:Int)=x[i]:=by
 unfold rd_T26
 rw [Int.toNat_natCast,List.getD_eq_getElem?_getD,List.getElem?_eq_getElem h]
 rfl
theorem idxR_l0 (x:List S26) (hx:x.length≤16777216) (d:Nat):∀i:Nat,x.length-i=d→∃t:Int,Ev (fun k=>impl_Ratio_103.l0 k x (x.length:Int) (i:Int)) t∧(decide (t≥0) = !(allR (x.drop i))):=by
 induction d with
|zero=>
  intro i hd
  refine ⟨-1,Ev.step (f:=fun _=>some (-1)) (fun k=>?_) (Ev.now _),?_⟩
  ·simp only [impl_Ratio_103.l0]
   rw [if_neg (by omega)]
  ·rw [List.drop_eq_nil_of_le (by omega)]
   simp [allR]
|succ d ih=>
  intro i hd
  have h:i<x.length:=by omega
  obtain ⟨t,ht,he⟩:=ih (i+1) (by omega)
  have hn:Ev (fun k=>impl_FitsSystemNot.f k x[i].f0 x[i].f1) (!(isR x[i].f0 x[i].f1)):=by
   unfold impl_FitsSystemNot.f
   exact Ev.bind (isRI_ev _ _) (Ev.now _)
  have hs:∀k,impl_Ratio_103.l0 (k+1) x (x.length:Int) (i:Int)=(impl_FitsSystemNot.f k x[i].f0 x[i].f1).bind fun t=>if t=true then some (i:Int) else impl_Ratio_103.l0 k x (x.length:Int) ((i+1:Nat):Int):=fun k=>by
   simp only [impl_Ratio_103.l0]
   rw [if_pos (by omega),if_pos (by omega),if_pos (by omega),rdF x i h,wrap_id (by omega) (by omega)]
   rfl
  rw [List.drop_eq_getElem_cons h]
  by_cases c:isR x[i].f0 x[i].f1=true
  ·refine ⟨t,Ev.step hs (Ev.bind hn ?_),?_⟩
   ·rw [c]
    simp only [Bool.not_true,Bool.false_eq_true,if_false]
    exact ht
   ·rw [he]
    unfold allR
    rw [List.all_cons,c,Bool.true_and]
  ·refine ⟨(i:Int),Ev.step hs (Ev.bind hn ?_),?_⟩
   ·rw [Bool.eq_false_iff.2 c]
    simp only [Bool.not_false,if_true]
    exact Ev.now _
   ·unfold allR
    rw [List.all_cons,Bool.eq_false_iff.2 c,Bool.false_and,Bool.not_false,decide_eq_true (by omega)]
theorem contR_ev (x:List S26) (hx:x.length≤16777216):Ev (fun k=>impl_Ratio_72.f k x) (!(allR x)):=by
 obtain ⟨t,ht,he⟩:=idxR_l0 x hx x.length 0 (by omega)
 unfold impl_Ratio_72.f impl_Ratio_103.f
 rw [List.drop_zero] at he
 rw [← he]
 exact Ev.bind ht (Ev.now _)
theorem fitI_l1 (v:List Int) (x:List S26) (m:List (List Int)) (row:List Int) (i:Nat) (y:Int) (rest:Bool) (hrl:row.length=x.length) (hx:x.length≤1000) (hi:i<v.length) (hy:v[i]=y) (hi2:i≤1000)
  (hend:Ev (fun k=>impl_FitsSystem.l0 k v x m (m.length:Int) ((i+1:Nat):Int)) rest) (d:Nat):∀(j:Nat) (a b:Int),row.length-j=d→j≤row.length→
  Ev (fun k=>impl_FitsSystem.l1 k v x (i:Int) m (m.length:Int) (i:Int) row (row.length:Int) (j:Int) a b) ((dotR (row.drop j) (x.drop j) a b).2.2 && (((dotR (row.drop j) (x.drop j) a b).1 == y) && ((dotR (row.drop j) (x.drop j) a b).2.1 == 1)) && rest):=by
 induction d with
|zero=>
  intro j a b hd hj
  rw [dotR_nil _ _ _ _ (.inl (List.drop_eq_nil_of_le (by omega)))]
  refine Ev.step (f:=fun k=>if (!(a == y) || !(b == 1))=true then some false else impl_FitsSystem.l0 k v x m (m.length:Int) ((i+1:Nat):Int)) (fun k=>?_) ?_
  ·simp only [impl_FitsSystem.l1]
   rw [if_neg (by omega),if_pos (by omega),if_pos (by omega),rd_nat v i hi,hy,wrap_id (by omega) (by omega)]
   rfl
  ·by_cases c:(!(a == y) || !(b == 1))=true
   ·simp only [if_pos c]
    have:((true && ((a == y) && (b == 1))) && rest)=false:=by
     cases h1:(a == y)<;>cases h2:(b == 1)<;>simp_all
    rw [this]
    exact Ev.now _
   ·simp only [if_neg c]
    have:((true && ((a == y) && (b == 1))) && rest)=rest:=by
     cases h1:(a == y)<;>cases h2:(b == 1)<;>simp_all
    rw [this]
    exact hend
|succ d ih=>
  intro j a b hd hj
  have h1:j<row.length:=by omega
  have h2:j<x.length:=by omega
  rw [List.drop_eq_getElem_cons h1,List.drop_eq_getElem_cons h2]
  refine Ev.step (f:=fun k=>(impl_TimesRatios.f k row[j] 1 x[j].f0 x[j].f1).bind fun y=>(impl_AddRatios.f k a b y.1 y.2.1).bind fun z=>if y.2.2=true then (if z.2.2=true then impl_FitsSystem.l1 k v x (i:Int) m (m.length:Int) (i:Int) row (row.length:Int) ((j+1:Nat):Int) z.1 z.2.1 else some false) else some false) (fun k=>?_) (Ev.bind (ITimes_ev row[j] 1 x[j].f0 x[j].f1) (Ev.bind (IAdd_ev a b _ _) ?_))
  ·simp only [impl_FitsSystem.l1]
   rw [if_pos (by omega),if_pos (by omega),if_pos (by omega),if_pos (by omega),rd_nat row j h1,rdF x j h2,wrap_id (x:=(j:Int)+1) (by omega) (by omega)]
   rfl
  ·unfold dotR
   by_cases c1:(timesOf row[j] 1 x[j].f0 x[j].f1).2.2=true
   ·simp only [if_pos c1]
    by_cases c2:(addOf a b (timesOf row[j] 1 x[j].f0 x[j].f1).1 (timesOf row[j] 1 x[j].f0 x[j].f1).2.1).2.2=true
    ·simp only [if_pos c2]
     exact ih (j+1) _ _ (by omega) (by omega)
    ·simp only [if_neg c2,Bool.false_and]
     exact Ev.now _
   ·simp only [if_neg c1,Bool.false_and]
    exact Ev.now _
theorem zip_drop (m:List (List Int)) (v:List Int) (i:Nat) (h1:i<m.length) (h2:i<v.length):(List.zip m v).drop i=(m[i],v[i]) :: (List.zip m v).drop (i+1):=by
 rw [List.drop_eq_getElem_cons (by rw [List.length_zip];omega),List.getElem_zip]
theorem fitI_l0 (m:List (List Int)) (v:List Int) (x:List S26) (hm:∀r∈m,r.length=x.length) (hv:v.length=m.length) (hx:x.length≤1000) (hml:m.length≤1000) (d:Nat):∀i:Nat,m.length-i=d→i≤m.length→Ev (fun k=>impl_FitsSystem.l0 k v x m (m.length:Int) (i:Int)) (((List.zip m v).drop i).all (okRow x)):=by
 induction d with
|zero=>
  intro i hd hi
  rw [List.drop_eq_nil_of_le (by rw [List.length_zip];omega)]
  refine Ev.step (f:=fun _=>some true) (fun k=>?_) (Ev.now _)
  simp only [impl_FitsSystem.l0]
  rw [if_neg (by omega)]
|succ d ih=>
  intro i hd hi
  have h:i<m.length:=by omega
  have h2:i<v.length:=by omega
  rw [zip_drop m v i h h2]
  have:=fitI_l1 v x m m[i] i v[i] _ (hm _ (List.getElem_mem h)) hx h2 rfl (by omega) (ih (i+1) (by omega) (by omega)) m[i].length 0 0 1 (by omega) (by omega)
  rw [List.drop_zero,List.drop_zero] at this
  refine Ev.step (fun k=>?_) this
  simp only [impl_FitsSystem.l0]
  rw [if_pos (by omega),if_pos (by omega),if_pos (by omega),rdL_nat m i h]
  rfl
theorem sys_rows {m:List (List Int)} {v:List Int} {x:List S26} (h:isSys m v (x.length:Int)=true):(∀r∈m,r.length=x.length)∧v.length=m.length∧x.length≤1000∧m.length≤1000:=by
 obtain ⟨h1,h2,_⟩:=(isSys_iff m v _).1 h
 obtain ⟨n,hn,hok,hm12⟩:=okm_of_isMat h1
 have:=hok.le6
 exact ⟨fun r hr=>by rw [hok.len r hr];omega,h2,by omega,by omega⟩
theorem fitI_ev (m:List (List Int)) (v:List Int) (x:List S26) (hm:m.length≤16777216) (hr:∀r∈m,r.length≤16777216) (hv:v.length≤16777216) (hx:x.length≤16777216):Ev (fun k=>impl_FitsSystem.f k m v x) (fitOf m v x):=by
 have h1:=implSys_ev m v hm hr hv (x.length:Int)
 have hj:Ev (fun k=>impl_FitsSystem.j0 k m v x true) false:=Ev.step (f:=fun _=>some false) (fun k=>by simp only [impl_FitsSystem.j0];rw [if_pos trivial]) (Ev.now _)
 unfold impl_FitsSystem.f fitOf
 refine Ev.bind h1 ?_
 cases hb:isSys m v (x.length:Int) with
|false=>
  simp only [Bool.false_eq_true,if_false,Bool.false_and]
  exact hj
|true=>
  simp only [if_true,Bool.true_and]
  refine Ev.bind (contR_ev x hx) ?_
  cases ha:allR x with
 |false=>
   simp only [Bool.not_false,Bool.false_and]
   exact hj
 |true=>
   simp only [Bool.not_true,Bool.true_and]
   obtain ⟨k1,k2,k3,k4⟩:=sys_rows hb
   have:=fitI_l0 m v x k1 k2 k3 k4 m.length 0 (by omega) (by omega)
   rw [List.drop_zero] at this
   refine Ev.step (fun k=>?_) this
   simp only [impl_FitsSystem.j0]
   rw [if_neg (by decide)]
   rfl
def yFrom:List S26→List Int→List S26→List S26 × Bool
 | q :: x,n :: v,out=>if (addOf q.f0 q.f1 n 1).2.2=true then yFrom x v (out ++ [⟨(addOf q.f0 q.f1 n 1).1,(addOf q.f0 q.f1 n 1).2.1⟩]) else ([],false)
 | _,_,out=>(out,true)
def twoOf (x:List S26) (t:List S26 × Bool):List S26 × List S26 × Bool:=if t.2=true then (x,t.1,true) else ([],[],false)
theorem yFrom_len:∀(x:List S26) (v:List Int) (out:List S26),(yFrom x v out).1.length≤out.length+x.length
 | [],_,out=>by unfold yFrom;simp
 | _ :: _,[],out=>by unfold yFrom;simp
 | q :: x,n :: v,out=>by
  unfold yFrom
  split
  ·have:=yFrom_len x v (out ++ [⟨(addOf q.f0 q.f1 n 1).1,(addOf q.f0 q.f1 n 1).2.1⟩])
   simp only [List.length_append,List.length_cons,List.length_nil] at this ⊢
   omega
  ·simp
theorem yFrom_at:∀(x:List S26) (v:List Int) (out:List S26),x.length=v.length→(yFrom x v out).2=true→∃T:List S26,(yFrom x v out).1=out ++ T∧T.length=x.length∧∀j (h:j<T.length) (h2:j<x.length),addOf x[j].f0 x[j].f1 (at0 v j) 1=(T[j].f0,T[j].f1,true)
|[],v,out,_,_=>⟨[],by unfold yFrom;simp,rfl,by simp⟩
|q :: x,[],out,h,_=>by simp at h
|q :: x,n :: v,out,h,hy=>by
  unfold yFrom at hy ⊢
  by_cases c:(addOf q.f0 q.f1 n 1).2.2=true
  ·rw [if_pos c] at hy ⊢
   obtain ⟨T,e,hl,hT⟩:=yFrom_at x v _ (by simpa using h) hy
   refine ⟨⟨(addOf q.f0 q.f1 n 1).1,(addOf q.f0 q.f1 n 1).2.1⟩ :: T,by rw [e];simp,by simp [hl],fun j hj hj2=>?_⟩
   cases j with
  |zero=>
    show addOf q.f0 q.f1 n 1=((addOf q.f0 q.f1 n 1).1,(addOf q.f0 q.f1 n 1).2.1,true)
    rw [← c]
  |succ j=>exact hT j (by simpa using hj) (by simpa using hj2)
  ·rw [if_neg c] at hy
   simp at hy
theorem rdT (x:List S26) (i:Nat) (h:i<x.length):rd_T26 x (i:Int)=x[i]:=by
 unfold rd_T26
 rw [Int.toNat_natCast,List.getD_eq_getElem?_getD,List.getElem?_eq_getElem h]
 rfl
theorem two_step (x:List S26) (q:S26) (n:Int) (X:List S26) (v:List Int) (out:List S26):twoOf x (yFrom (q :: X) (n :: v) out)=if (addOf q.f0 q.f1 n 1).2.2=true then twoOf x (yFrom X v (out ++ [⟨(addOf q.f0 q.f1 n 1).1,(addOf q.f0 q.f1 n 1).2.1⟩])) else ([],[],false):=by
 rw [yFrom]
 split
 ·rfl
 ·rfl
theorem two_nil (x:List S26) (v:List Int) (out:List S26):twoOf x (yFrom [] v out)=(x,out,true):=by
 unfold yFrom twoOf
 rfl
theorem twoI_l0 (x:List S26) (v:List Int) (hx:x.length≤1000) (hv:v.length=x.length) (d:Nat):∀(i:Nat) (out:List S26),x.length-i=d→out.length≤i→i≤x.length→Ev (fun k=>impl_TwoSolutions.l0 k x v out (x.length:Int) (i:Int)) (twoOf x (yFrom (x.drop i) (v.drop i) out)):=by
 induction d with
|zero=>
  intro i out hd ho hi
  rw [show x.drop i=[] from List.drop_eq_nil_of_le (by omega),two_nil]
  refine Ev.step (f:=fun _=>some (x,out,true)) (fun k=>?_) (Ev.now _)
  simp only [impl_TwoSolutions.l0]
  rw [if_neg (by omega)]
|succ d ih=>
  intro i out hd ho hi
  have h1:i<x.length:=by omega
  have h2:i<v.length:=by omega
  rw [List.drop_eq_getElem_cons h1,List.drop_eq_getElem_cons h2,two_step]
  refine Ev.step (f:=fun k=>(impl_AddRatios.f k x[i].f0 x[i].f1 v[i] 1).bind fun z=>if z.2.2=true then impl_TwoSolutions.l0 k x v (out ++ [⟨z.1,z.2.1⟩]) (x.length:Int) ((i+1:Nat):Int) else some ([],[],false)) (fun k=>?_) (Ev.bind (IAdd_ev _ _ _ _) ?_)
  ·simp only [impl_TwoSolutions.l0]
   rw [if_pos (by omega),if_pos (by omega),if_pos (by omega),if_pos (by omega),rdT x i h1,rd_nat v i h2,wrap_id (by omega) (by omega)]
   simp only [if_pos (show out.length<8796093022208 by omega)]
   rfl
  ·by_cases c:(addOf x[i].f0 x[i].f1 v[i] 1).2.2=true
   ·simp only [if_pos c]
    exact ih (i+1) _ (by omega) (by simp;omega) (by omega)
   ·simp only [if_neg c]
    exact Ev.now _
structure TwoFacts (m : List (List Int)) (v row : List Int) (S T : List S26) : Prop where
 sol : isSys m v (row.length : Int) = true ∧ ∃ (P : List (List Int × Nat)) (Q : List (List Int)), Solved m v row.length P Q ∧ S = solOf row.length P.reverse
 lenS : S.length = row.length
 lenT : T.length = row.length
 nul : bothB m row = true ∧ ¬ Sp (RowSp m) (at0 row) ∧ ∃ u, NullOf m row u ∧ ∀ j (h : j < T.length) (h2 : j < S.length), addOf S[j].f0 S[j].f1 (at0 u j) 1 = (T[j].f0, T[j].f1, true)
theorem two_both (m:List (List Int)) (v row:List Int) (hm:m.length≤16777216) (hr:∀x∈m,x.length≤16777216) (hv:v.length≤16777216) (hl:row.length≤16777216):∃(S T:List S26) (ok:Bool),Ev (fun k=>impl_TwoSolutions.f k m v row) (S,T,ok)∧S.length≤1000∧T.length≤1000∧(ok=true→TwoFacts m v row S T):=by
 obtain ⟨b,X,hXI,hXS,hXl,hXF,hXT⟩:=sol_both m v (row.length:Int) hm hr hv
 obtain ⟨u,hUI,hUl,hU1,hU2,hU3⟩:=null_impl m row hm hr hl
 have hjI:∀X,Ev (fun k=>impl_TwoSolutions.j0 k X u true) ([],[],false):=fun X=>Ev.step (f:=fun _=>some ([],[],false)) (fun k=>by simp only [impl_TwoSolutions.j0];rw [if_pos trivial]) (Ev.now _)
 cases b with
|false=>
  refine ⟨[],[],false,?_,by simp,by simp,by simp⟩
  ·unfold impl_TwoSolutions.f
   refine Ev.bind hXI ?_
   refine Ev.bind hUI ?_
   simp only [Bool.false_eq_true,if_false]
   exact hjI _
|true=>
  obtain ⟨hsys,n,P,Q,hn,hSol,hXe,_⟩:=hXT rfl
  have e1:row.length=n:=by omega
  subst e1
  have hsl:X.length=row.length:=by rw [hXe];unfold solOf;rw [solStep_len];simp
  by_cases hu0:u=[]
  ·subst hu0
   refine ⟨[],[],false,?_,by simp,by simp,by simp⟩
   ·unfold impl_TwoSolutions.f
    refine Ev.bind hXI ?_
    refine Ev.bind hUI ?_
    simp only [if_true]
    exact hjI _
  ·have hb:bothB m row=true:=by
    cases h:bothB m row with
   |true=>rfl
   |false=>exact absurd (hU1 h) hu0
   have hns:¬Sp (RowSp m) (at0 row):=fun h=>hu0 (hU2 h)
   obtain ⟨hN,_⟩:=hU3 hb hns
   have hlen:u.length=X.length:=by rw [hN.len,hsl]
   have hz:((u.length:Int) == 0)=false:=by
    have:u.length≠0:=fun h=>hu0 (List.eq_nil_of_length_eq_zero h)
    rw [beq_eq_false_iff_ne]
    omega
   have k1:Ev (fun k=>impl_TwoSolutions.f k m v row) (twoOf X (yFrom X u [])):=by
    unfold impl_TwoSolutions.f
    refine Ev.bind hXI ?_
    refine Ev.bind hUI ?_
    simp only [if_true,hz]
    refine Ev.step (fun k=>?_) (twoI_l0 X u hXl hlen X.length 0 [] (by omega) (by simp) (by omega))
    simp only [impl_TwoSolutions.j0]
    rw [if_neg (by decide)]
    rfl
   have hyl:=yFrom_len X u []
   by_cases c:(yFrom X u []).2=true
   ·have e:twoOf X (yFrom X u [])=(X,(yFrom X u []).1,true):=by unfold twoOf;rw [if_pos c]
    rw [e] at k1
    obtain ⟨T,hT,hTl,hTa⟩:=yFrom_at X u [] hlen.symm c
    rw [List.nil_append] at hT
    rw [hT] at k1
    refine ⟨X,T,true,k1,hXl,by omega,fun _=>⟨⟨hsys,P,Q,hSol,hXe⟩,hsl,by omega,hb,hns,u,hN,hTa⟩⟩
   ·have e:twoOf X (yFrom X u [])=([],[],false):=by unfold twoOf;rw [if_neg c]
    rw [e] at k1
    exact ⟨[],[],false,k1,by simp,by simp,by simp⟩
theorem low_terms {n d T D:Int} (hd:0<d) (hD:0<D) (hg:Int.gcd n d=1) (h:n*D=T*d):d≤D∧n.natAbs≤T.natAbs:=by
 have h1:d∣n*D:=⟨T,by rw [h,Int.mul_comm]⟩
 have h2:d∣D:=by
  refine Int.natAbs_dvd_natAbs.1 (Nat.Coprime.dvd_of_dvd_mul_left (m:=n.natAbs) ?_ ?_)
  ·rw [Nat.coprime_comm];exact hg
  ·rw [← Int.natAbs_mul]
   exact Int.natAbs_dvd_natAbs.2 h1
 obtain ⟨u,hu⟩:=h2
 have hu0:0<u:=by
  rcases Int.lt_or_le 0 u with h|h
  ·exact h
  ·have:d*u≤0:=Int.mul_nonpos_of_nonneg_of_nonpos (by omega) h
   omega
 have e:n*u=T:=by
  have:d*(n*u)=d*T:=by rw [Int.mul_left_comm,← hu,h,Int.mul_comm]
  exact Int.eq_of_mul_eq_mul_left (by omega) this
 refine ⟨Int.le_of_dvd hD ⟨u,hu⟩,?_⟩
 rw [← e,Int.natAbs_mul]
 exact Nat.le_mul_of_pos_right _ (by omega)
def valT (D:Int) (n:Nat) (row:List Int) (p:List Int × Nat):Int:=D / at0 p.1 p.2*at0 row p.2*at0 p.1 n
theorem sumOver_take {α:Type} (g:α→Int) (L:List α) (i:Nat) (h:i<L.length):sumOver g (L.take (i+1))=sumOver g (L.take i)+g L[i]:=by
 rw [List.take_succ_eq_append_getElem h,sumOver_append]
 simp only [sumOver]
 omega
theorem valI_l0 {m:List (List Int)} {v:List Int} {n:Nat} {P:List (List Int × Nat)} {D:Int} {B:Nat} (h:SolFacts m v n P D B) (row:List Int) (hrow:row.length=n) (hrs:∀j,j<n→(at0 row j).natAbs≤2) (hn:n≤6) (e f:Int) (hr:Rep D (sumOver (valT D n row) P.reverse) e f) (d:Nat):∀(i:Nat) (a b:Int),P.reverse.length-i=d→i≤P.reverse.length→0<b→Int.gcd a b=1→a*D=sumOver (valT D n row) (P.reverse.take i)*b→
  Ev (fun k=>impl_ValueOf.l0 k row (n:Int) a b (P.reverse.map (·.1)) (P.reverse.length:Int) (i:Int)) (e,f,true):=by
 generalize hL:P.reverse=L at *
 have hD:=h.hD;have hD2:=h.hD2;have hB:=h.hB
 have hT:∀p∈L,(valT D n row p).natAbs≤46080000:=fun p hp=>by
  have hv:=h.val p (by rw [hL];exact hp)
  have hc:=(h.piv p (by rw [hL];exact hp)).col
  unfold valT
  rw [Int.mul_right_comm,Int.natAbs_mul]
  exact Nat.le_trans (Nat.mul_le_mul (Nat.le_trans hv hB) (hrs p.2 hc)) (by omega)
 have hlen:L.length≤6:=by rw [← hL];exact h.len
 have hTi:∀i,(sumOver (valT D n row) (L.take i)).natAbs≤276480000:=fun i=>by
  have h1:=sum_small (valT D n row) 46080000 (L.take i) fun p hp=>hT p (List.mem_of_mem_take hp)
  have h2:(L.take i).length≤6:=by rw [List.length_take];omega
  have h3:(L.take i).length*46080000≤6*46080000:=Nat.mul_le_mul_right _ h2
  omega
 induction d with
|zero=>
  intro i a b hd hi hb hg hab
  have e1:L.take i=L:=List.take_of_length_le (by omega)
  have hlow:=low_terms hb hD hg hab
  have ht:=hTi i
  rw [e1] at hab
  have hred:=redI_ev a b (by omega) (by omega) (by omega) (by omega) (by omega)
  rw [hr.red a b hD (by omega) hab] at hred
  refine Ev.step (f:=fun k=>(impl_reduced.f k a b).bind fun bt=>some (bt.1,bt.2.1,bt.2.2)) (fun k=>?_) (Ev.bind hred (Ev.now _))
  simp only [impl_ValueOf.l0]
  rw [if_neg (by omega)]
|succ d ih=>
  intro i a b hd hi hb hg hab
  have hi2:i<L.length:=by omega
  have hd1:L.length-(i+1)=d:=by omega
  have hi1:i+1≤L.length:=by omega
  have hpm:L[i]∈L:=List.getElem_mem hi2
  have hp:=h.piv L[i] (by rw [hL];exact hpm)
  have hdv:=h.dvd L[i] (by rw [hL];exact hpm)
  have k1:=hp.len;have k2:=hp.col;have k3:=hp.ld;have k4:=hp.pos;have k5:=hp.le;have k6:=hp.val
  have hlow:=low_terms hb hD hg hab
  have ht:=hTi i
  have hlead:=leadI_ev L[i].1 (by omega)
  rw [if_pos (by omega),k3] at hlead
  have hrowi:rd_L1 (L.map (·.1)) (i:Int)=L[i].1:=by
   rw [rdL_nat _ i (by simpa using hi2)]
   simp
  have hrc:=hrs L[i].2 k2
  have m1:(a*at0 L[i].1 L[i].2).natAbs≤276480000*46080:=mul_bd (by omega) (by omega)
  have m2:(at0 row L[i].2*at0 L[i].1 n).natAbs≤2*23040000:=mul_bd hrc k6
  have m3:(at0 row L[i].2*at0 L[i].1 n*b).natAbs≤2*23040000*46080:=mul_bd m2 (by omega)
  have m4:(b*at0 L[i].1 L[i].2).natAbs≤46080*46080:=mul_bd (by omega) (by omega)
  have m5:0<b*at0 L[i].1 L[i].2:=Int.mul_pos hb k4
  generalize hN:a*at0 L[i].1 L[i].2+at0 row L[i].2*at0 L[i].1 n*b=N
  generalize hM:b*at0 L[i].1 L[i].2=M at m4 m5
  have hgev:=gcdI_ev N M (by omega) (by omega) (by omega) (by omega)
  have hgp:0<Int.gcd N M:=by
   rcases Nat.eq_zero_or_pos (Int.gcd N M) with h|h
   ·have:=(Int.gcd_eq_zero_iff.1 h).2
    omega
   ·exact h
  have hNM:N*D=sumOver (valT D n row) (L.take (i+1))*M:=by
   rw [sumOver_take _ _ _ hi2,← hN,← hM]
   obtain ⟨u,hu⟩:=hdv
   have hq:D / at0 L[i].1 L[i].2=u:=by rw [hu];exact Int.mul_ediv_cancel_left _ (by omega)
   unfold valT at hab ⊢
   rw [hq,Int.add_mul,Int.add_mul]
   congr 1
   ·rw [Int.mul_right_comm,hab,Int.mul_assoc]
   ·rw [hu]
    simp only [Int.mul_assoc,Int.mul_comm,Int.mul_left_comm]
  obtain ⟨u,hu⟩:=Int.gcd_dvd_left N M
  obtain ⟨w,hw⟩:=Int.gcd_dvd_right N M
  have huw:Int.gcd u w=1:=by
   have h2:Int.gcd ((Int.gcd N M:Int)*u) ((Int.gcd N M:Int)*w)=Int.gcd N M*Int.gcd u w:=by
    rw [Int.gcd_mul_left]
    simp
   rw [← hu,← hw] at h2
   have h3:Int.gcd N M*Int.gcd u w=Int.gcd N M*1:=by omega
   exact Nat.eq_of_mul_eq_mul_left hgp h3
  have tu:Int.tdiv N (Int.gcd N M:Int)=u:=by
   have:Int.tdiv ((Int.gcd N M:Int)*u) (Int.gcd N M:Int)=u:=Int.mul_tdiv_cancel_left _ (by omega)
   rwa [← hu] at this
  have tw:Int.tdiv M (Int.gcd N M:Int)=w:=by
   have:Int.tdiv ((Int.gcd N M:Int)*w) (Int.gcd N M:Int)=w:=Int.mul_tdiv_cancel_left _ (by omega)
   rwa [← hw] at this
  have hw0:0<w:=by
   rcases Int.lt_or_le 0 w with h|h
   ·exact h
   ·have:(Int.gcd N M:Int)*w≤0:=Int.mul_nonpos_of_nonneg_of_nonpos (by omega) h
    omega
  have hnew:u*D=sumOver (valT D n row) (L.take (i+1))*w:=by
   have:(Int.gcd N M:Int)*(u*D)=(Int.gcd N M:Int)*(sumOver (valT D n row) (L.take (i+1))*w):=by
    rw [← Int.mul_assoc,← hu,hNM,Int.mul_left_comm,← hw]
   exact Int.eq_of_mul_eq_mul_left (by omega) this
  have hlow2:=low_terms hw0 hD huw hnew
  have ht2:=hTi (i+1)
  refine Ev.step (f:=fun k=>(impl_lead.f k L[i].1).bind fun t=>if 0≤t then (if t<(L[i].1.length:Int) then (if t<(row.length:Int) then (if 0≤(n:Int) then (if (n:Int)<(L[i].1.length:Int) then ((impl_gcd.f k (wrap64 ((wrap64 (a*(rd L[i].1 t)))+(wrap64 ((wrap64 ((rd row t)*(rd L[i].1 (n:Int))))*b)))) (wrap64 (b*(rd L[i].1 t)))).bind fun g=>if g=0 then none else impl_ValueOf.l0 k row (n:Int) (wrap64 (Int.tdiv (wrap64 ((wrap64 (a*(rd L[i].1 t)))+(wrap64 ((wrap64 ((rd row t)*(rd L[i].1 (n:Int))))*b)))) g)) (wrap64 (Int.tdiv (wrap64 (b*(rd L[i].1 t))) g)) (L.map (·.1)) (L.length:Int) ((i+1:Nat):Int)) else none) else none) else none) else none) else none) (fun k=>?_) (Ev.bind hlead ?_)
  ·simp only [impl_ValueOf.l0]
   rw [if_pos (by omega),if_pos (by omega),if_pos (by simpa using hi2),hrowi,wrap_id (x:=(i:Int)+1) (by omega) (by omega)]
   rfl
  ·have w1:wrap64 (a*at0 L[i].1 L[i].2)=a*at0 L[i].1 L[i].2:=wrap_id (by omega) (by omega)
   have w2:wrap64 (at0 row L[i].2*at0 L[i].1 n)=at0 row L[i].2*at0 L[i].1 n:=wrap_id (by omega) (by omega)
   have w3:wrap64 (at0 row L[i].2*at0 L[i].1 n*b)=at0 row L[i].2*at0 L[i].1 n*b:=wrap_id (by omega) (by omega)
   have w4:wrap64 N=N:=wrap_id (by omega) (by omega)
   have w5:wrap64 M=M:=wrap_id (by omega) (by omega)
   simp only [if_pos (show (0:Int)≤(L[i].2:Int) by omega),if_pos (show (L[i].2:Int)<(L[i].1.length:Int) by omega),if_pos (show (L[i].2:Int)<(row.length:Int) by omega),if_pos (show (0:Int)≤(n:Int) by omega),if_pos (show (n:Int)<(L[i].1.length:Int) by omega),at0_rd,w1,w2,w3,hN,hM,w4,w5]
   refine Ev.bind hgev ?_
   simp only [if_neg (show ¬((Int.gcd N M:Nat):Int)=0 by omega),tu,tw]
   rw [wrap_id (x:=u) (by omega) (by omega),wrap_id (x:=w) (by omega) (by omega)]
   exact ih (i+1) u w hd1 hi1 hw0 huw hnew
theorem rowSum_l0 (row:List Int) (x:List S26) (hl:row.length≤1000) (hx:x.length≤1000) (d:Nat):∀(i:Nat) (a b:Int),row.length-i=d→Ev (fun k=>laws_rowSum.l0 k row x (i:Int) a b) (dotR (row.drop i) (x.drop i) a b):=by
 induction d with
|zero=>
  intro i a b hd
  rw [dotR_nil _ _ _ _ (.inl (List.drop_eq_nil_of_le (by omega)))]
  refine Ev.step (f:=fun k=>laws_rowSum.j1 k row x (i:Int) false a b) (fun k=>?_) (Ev.step (f:=fun _=>some (a,b,true)) (fun k=>?_) (Ev.now _))
  ·simp only [laws_rowSum.l0]
   rw [if_neg (by omega)]
  ·simp only [laws_rowSum.j1]
   rw [if_neg (by decide)]
|succ d ih=>
  intro i a b hd
  have h1:i<row.length:=by omega
  by_cases h2:i<x.length
  ·rw [List.drop_eq_getElem_cons h1,List.drop_eq_getElem_cons h2]
   have hrx:rd_T26 x (i:Int)=x[i]:=by
    unfold rd_T26
    rw [Int.toNat_natCast,List.getD_eq_getElem?_getD,List.getElem?_eq_getElem h2]
    rfl
   refine Ev.step (f:=fun k=>laws_rowSum.j1 k row x (i:Int) true a b) (fun k=>?_) (Ev.step (f:=fun k=>(impl_TimesRatios.f k row[i] 1 x[i].f0 x[i].f1).bind fun y=>(impl_AddRatios.f k a b y.1 y.2.1).bind fun z=>if y.2.2=true then (if z.2.2=true then laws_rowSum.l0 k row x ((i+1:Nat):Int) z.1 z.2.1 else some (0,0,false)) else some (0,0,false)) (fun k=>?_) ?_)
   ·simp only [laws_rowSum.l0]
    rw [if_pos (by omega),decide_eq_true (by omega)]
   ·simp only [laws_rowSum.j1]
    rw [if_pos trivial,if_pos (by omega),if_pos (by omega),if_pos (by omega),rd_nat row i h1,hrx,wrap_id (by omega) (by omega)]
    rfl
   ·refine Ev.bind (ITimes_ev row[i] 1 x[i].f0 x[i].f1) (Ev.bind (IAdd_ev a b _ _) ?_)
    unfold dotR
    by_cases c1:(timesOf row[i] 1 x[i].f0 x[i].f1).2.2=true
    ·simp only [if_pos c1]
     by_cases c2:(addOf a b (timesOf row[i] 1 x[i].f0 x[i].f1).1 (timesOf row[i] 1 x[i].f0 x[i].f1).2.1).2.2=true
     ·simp only [if_pos c2]
      exact ih (i+1) _ _ (by omega)
     ·simp only [if_neg c2]
      exact Ev.now _
    ·simp only [if_neg c1]
     exact Ev.now _
  ·rw [dotR_nil _ _ _ _ (.inr (List.drop_eq_nil_of_le (by omega)))]
   refine Ev.step (f:=fun k=>laws_rowSum.j1 k row x (i:Int) false a b) (fun k=>?_) (Ev.step (f:=fun _=>some (a,b,true)) (fun k=>?_) (Ev.now _))
   ·simp only [laws_rowSum.l0]
    rw [if_pos (by omega),decide_eq_false (by omega)]
   ·simp only [laws_rowSum.j1]
    rw [if_neg (by decide)]
theorem rowSum_ev (row:List Int) (x:List S26) (hl:row.length≤1000) (hx:x.length≤1000):Ev (fun k=>laws_rowSum.f k row x) (dotR row x 0 1):=by
 unfold laws_rowSum.f
 exact rowSum_l0 row x hl hx row.length 0 0 1 (by omega)
theorem Solved.unique {m:List (List Int)} {v:List Int} {n:Nat} {P P':List (List Int × Nat)} {Q Q':List (List Int)} (h:Solved m v n P Q) (h':Solved m v n P' Q'):P=P':=
 h.red.eq h.zero h'.red (fun v=>Iff.rfl) h.lenP h'.lenP
theorem aug_mem {m:List (List Int)} {v:List Int} {r:List Int} (hr:r∈aug m v):∃(i:Nat) (h1:i<m.length) (h2:i<v.length),r=m[i] ++ [v[i]]:=by
 obtain ⟨i,hi⟩:=List.getElem?_of_mem hr
 unfold aug at hi
 rw [List.getElem?_zipWith] at hi
 by_cases h1:i<m.length
 ·by_cases h2:i<v.length
  ·rw [List.getElem?_eq_getElem h1,List.getElem?_eq_getElem h2] at hi
   simp only [Option.some.injEq] at hi
   exact ⟨i,h1,h2,hi.symm⟩
  ·rw [List.getElem?_eq_none (l:=v) (by omega)] at hi
   cases m[i]?<;>simp at hi
 ·rw [List.getElem?_eq_none (l:=m) (by omega)] at hi
  simp at hi
theorem mem_aug (m:List (List Int)) (v:List Int) (i:Nat) (h1:i<m.length) (h2:i<v.length):m[i] ++ [v[i]]∈aug m v:=by
 have:=aug_get m v i h1 h2
 exact List.mem_of_getElem? this
theorem sol_fits {m:List (List Int)} {v:List Int} {n:Nat} {P:List (List Int × Nat)} {Q:List (List Int)} {D:Int} {B:Nat} (h:Solved m v n P Q) (hf:SolFacts m v n P D B) (i:Nat) (h1:i<m.length) (h2:i<v.length):dotN (solN n D P.reverse) (at0 m[i]) n=D*v[i]:=by
 have hl:=h.okm.len _ (List.getElem_mem h1)
 rw [solN_dot n D P.reverse _ hf.nod fun p hp=>(hf.piv p hp).col,sumOver_reverse]
 have hsp:=h.red.span h.zero (Sp.of ⟨_,mem_aug m v i h1 h2,rfl⟩)
 have hr:=res_span h.red.st.piv D (fun p hp=>hf.dvd p (List.mem_reverse.2 hp)) hsp n
 unfold res at hr
 have e0:at0 (m[i] ++ [v[i]]) n=v[i]:=by rw [at0_append,hl,if_neg (by omega),if_pos rfl]
 have e1:sumOver (fun p=>D / at0 p.1 p.2*at0 (m[i] ++ [v[i]]) p.2*at0 p.1 n) P=sumOver (fun p=>D / at0 p.1 p.2*at0 m[i] p.2*at0 p.1 n) P:=sumOver_congr _ _ P fun p hp=>by
  have hc:=(hf.piv p (List.mem_reverse.2 hp)).col
  rw [at0_append,hl,if_pos hc]
 rw [e0,e1] at hr
 omega
theorem fits_rep {m:List (List Int)} {v:List Int} {n:Nat} {N:V} {x:List S26} {D:Int} (hs:isSys m v (n:Int)=true) (hok:Okm m n n) (hx:x.length=n) (hD:0<D) (hD1:D≤1000000000) (hN:∀j (h:j<x.length),Rep D (N j) x[j].f0 x[j].f1) (hb:∀j,(N j).natAbs≤80000000)
  (hfit:∀(i:Nat) (h1:i<m.length) (h2:i<v.length),dotN N (at0 m[i]) n=D*v[i]):fitOf m v x=true:=by
 obtain ⟨q1,q2,q3⟩:=(isSys_iff m v _).1 hs
 unfold fitOf
 rw [hx,hs,Bool.true_and,Bool.and_eq_true]
 constructor
 ·unfold allR
  rw [List.all_eq_true]
  intro q hq
  obtain ⟨j,hj,rfl⟩:=List.getElem_of_mem hq
  exact (hN j hj).1
 ·unfold fitB
  rw [List.all_eq_true]
  rintro ⟨r,y⟩ hp
  obtain ⟨i,hi,e⟩:=List.getElem_of_mem hp
  rw [List.getElem_zip] at e
  have h1:i<m.length:=by rw [List.length_zip] at hi;omega
  have h2:i<v.length:=by omega
  obtain ⟨e1,e2⟩:=Prod.mk.inj e
  subst e1 e2
  have hrl:=hok.len _ (List.getElem_mem h1)
  obtain ⟨a,b,hd,hR⟩:=dotR_small (row:=m[i]) hrl hx hok.le6 hD hD1 (fun j hj=>by
   have:=hok.small _ (List.getElem_mem h1) j
   unfold bnd at this
   rwa [if_pos hj] at this) hN hb
  rw [hfit i h1 h2] at hR
  have hv:=q3 _ (List.getElem_mem h2)
  have h3:Rep D (D*v[i]) v[i] 1:=⟨(isR_iff _ _).2 ⟨by omega,by omega,by simp⟩,by rw [Int.mul_one,Int.mul_comm]⟩
  obtain ⟨ea,eb⟩:=hR.eq h3 hD
  unfold okRow
  rw [hd]
  simp [ea,eb]
theorem rep_add_one {D s a b u e f:Int} (h:Rep D s a b) (hD:0<D) (ha:addOf a b u 1=(e,f,true)):Rep D (s+D*u) e f:=by
  unfold addOf at ha
  by_cases c:isR a b=true∧isR u 1=true
  · rw [if_pos c] at ha
    have hb:=(isR_iff a b).1 h.1
    obtain ⟨h1,h2⟩:=redOf_eq _ _ _ _ (by omega) ha
    refine ⟨h1,?_⟩
    have e1:b*((s+D*u)*f)=b*(e*D):=by
      calc b*((s+D*u)*f)=(s*b+D*(u*b))*f:=by
            rw [Int.add_mul,Int.add_mul,Int.mul_add]
            congr 1
            · rw [Int.mul_comm s b,Int.mul_assoc]
            · simp only [Int.mul_comm,Int.mul_left_comm,Int.mul_assoc]
        _=D*((a*1+u*b)*f):=by
            rw [h.2,Int.mul_one,Int.mul_comm a D,← Int.mul_add,Int.mul_assoc]
        _=b*(e*D):=by
            rw [← h2,Int.mul_one]
            simp only [Int.mul_comm,Int.mul_left_comm]
    exact Int.eq_of_mul_eq_mul_left (by omega) e1
  · rw [if_neg c] at ha
    simp at ha
theorem dotN_lin (a u w:V) (D:Int):∀n:Nat,dotN (fun j=>a j+D*u j) w n=dotN a w n+D*dotN u w n
 | 0=>by simp [dotN]
 | n+1=>by
  simp only [dotN]
  rw [dotN_lin a u w D n,Int.add_mul,Int.mul_add,Int.mul_assoc]
  omega
theorem dotN_addr (a u w:V):∀n:Nat,dotN a (fun j=>u j+w j) n=dotN a u n+dotN a w n
 | 0=>rfl
 | n+1=>by
  simp only [dotN]
  rw [dotN_addr a u w n,Int.mul_add]
  omega
theorem dotN_smulr (a u:V) (c:Int):∀n:Nat,dotN a (fun j=>c*u j) n=c*dotN a u n
 | 0=>by simp [dotN]
 | n+1=>by
  simp only [dotN]
  rw [dotN_smulr a u c n,Int.mul_add,Int.mul_left_comm]
theorem dotN_single (a w:V) (k:Nat) (h:∀j,j≠k→a j=0∨w j=0):∀n:Nat,dotN a w n=if k<n then a k*w k else 0
 | 0=>by simp [dotN]
 | n+1=>by
  simp only [dotN]
  rw [dotN_single a w k h n]
  by_cases e:n=k
  ·subst e
   rw [if_neg (by omega),if_pos (by omega)]
   omega
  ·rcases h n e with h0|h0<;>rw [h0]
   ·by_cases hk:k<n
    ·rw [if_pos hk,if_pos (by omega)];omega
    ·rw [if_neg hk,if_neg (by omega)];omega
   ·by_cases hk:k<n
    ·rw [if_pos hk,if_pos (by omega)];omega
    ·rw [if_neg hk,if_neg (by omega)];omega
theorem dotN_congr' {a b w:V}:∀n:Nat,(∀j,j<n→b j=w j)→dotN a b n=dotN a w n
 | 0,_=>rfl
 | n+1,h=>by
  simp only [dotN]
  rw [dotN_congr' n fun j hj=>h j (by omega),h n (by omega)]
theorem few_pivs {m:List (List Int)} {v row u:List Int} {n:Nat} {P:List (List Int × Nat)} {Q:List (List Int)} (h:Solved m v n P Q) (hu:NullOf m row u) (hr:row.length=n):P.length<n:=by
 rcases Nat.lt_or_ge P.length n with hlt|hge
 ·exact hlt
 exfalso
 have hall:=piv_all h.red hge
 have hz0:=hu.zero
 have h10:=hu.one
 rw [hr] at hz0 h10
 have hker:∀w,Sp (RowSp (aug m v)) w→dotN (at0 u) w n=0:=fun w hw=>hw.kill (fun w=>dotN (at0 u) w n) (dotN_zero n fun j _=>.inr rfl) (fun a b=>dotN_addr (at0 u) a b n) (fun c a=>dotN_smulr (at0 u) a c n) fun a ha=>by
  obtain ⟨r,hr2,rfl⟩:=ha
  obtain ⟨i,q1,q2,rfl⟩:=aug_mem hr2
  have hl:=h.okm.len _ (List.getElem_mem q1)
  have:=hz0 _ (List.getElem_mem q1)
  rw [← this]
  refine (dotN_congr' n fun j hj=>?_)
  rw [at0_append,hl,if_pos hj]
 have hu0:∀j,j<n→at0 u j=0:=fun j hj=>by
  obtain ⟨p,hp,e⟩:=List.mem_map.1 (hall j hj)
  have hk:=hker _ (h.red.st.inP p hp)
  have hpos:=h.red.pos p hp
  have hcol:=h.red.ncol p hp
  have hone:dotN (at0 u) (fun j=>if j<n then at0 p.1 j else 0) n=at0 u p.2*at0 p.1 p.2:=by
   rw [dotN_single _ _ p.2 (fun j hj2=>?_) n,if_pos hcol]
   ·rw [if_pos hcol]
   ·by_cases hjn:j<n
    ·right
     rw [if_pos hjn]
     obtain ⟨q,hq,eq⟩:=List.mem_map.1 (hall j hjn)
     rw [← eq]
     exact h.red.st.piv.2.2 p hp q hq (by omega)
    ·right
     rw [if_neg hjn]
  have hsame:dotN (at0 u) (fun j=>if j<n then at0 p.1 j else 0) n=dotN (at0 u) (at0 p.1) n:=dotN_congr' n fun j hj=>if_pos hj
  rw [← hsame,hone] at hk
  rw [← e]
  exact (Int.mul_eq_zero.1 hk).resolve_right (by omega)
 exact h10 (dotN_zero n fun j hj=>.inl (hu0 j hj))
theorem Solved.facts5 {m:List (List Int)} {v:List Int} {n:Nat} {P:List (List Int × Nat)} {Q:List (List Int)} (h:Solved m v n P Q) (hl:P.length<6):∃D,SolFacts m v n P D 1920000∧D≤3840:=by
 obtain ⟨D,h0,h1,hh⟩:=small_piv5 h.red (m:=n) (fun o ho j=>by
  obtain ⟨r,hr,rfl⟩:=ho
  exact h.oka.small r hr j) (Nat.le_refl _) hl
 exact ⟨D,h.facts0 h0 (by omega) (by omega) fun p hp=>by
  obtain ⟨e,he,hDe,_,hj2⟩:=hh p hp
  exact ⟨e,he,hDe,hj2 n⟩,h1⟩
theorem value_impl (m:List (List Int)) (v row:List Int) (hm:m.length≤16777216) (hr:∀x∈m,x.length≤16777216) (hl:row.length≤16777216) (ok:Bool) (hF:ok=false→Ev (fun k=>impl_solved.f k m v (row.length:Int)) ([],false))
  (hT:ok=true→∃(P:List (List Int × Nat)) (Q:List (List Int)),Solved m v row.length P Q∧Ev (fun k=>impl_solved.f k m v (row.length:Int)) ((P.map (·.1)).reverse,true)) :
  ∃(a b:Int) (told:Bool),Ev (fun k=>impl_ValueOf.f k m v row) (a,b,told)∧(told=true→ok=true∧bothB m row=true∧Sp (RowSp m) (at0 row)∧
   ∃(P:List (List Int × Nat)) (Q:List (List Int)) (D:Int),Solved m v row.length P Q∧SolFacts m v row.length P D 23040000∧Rep D (dotN (solN row.length D P.reverse) (at0 row) row.length) a b):=by
 obtain ⟨c,cI,ci,c0⟩:=implSpan_ev m row hm hr hl
 have hj:∀R,Ev (fun k=>impl_ValueOf.j0 k row (row.length:Int) R true) (0,0,false):=fun R=>Ev.step (f:=fun _=>some (0,0,false)) (fun k=>by simp only [impl_ValueOf.j0];rw [if_pos trivial]) (Ev.now _)
 cases ok with
|false=>
  refine ⟨0,0,false,?_,by simp⟩
  unfold impl_ValueOf.f
  refine Ev.bind (hF rfl) ?_
  simp only [Bool.false_eq_true,if_false]
  exact hj _
|true=>
  obtain ⟨P,Q,hSol,hI⟩:=hT rfl
  cases c with
 |false=>
   refine ⟨0,0,false,?_,by simp⟩
   unfold impl_ValueOf.f
   refine Ev.bind hI ?_
   simp only [if_true]
   refine Ev.bind cI ?_
   simp only [Bool.not_false]
   exact hj _
 |true=>
   have hb:bothB m row=true:=by
    cases h:bothB m row with
   |true=>rfl
   |false=>exact absurd (c0 h) (by simp)
   have hb1:isMat m (row.length:Int)=true∧isMat [row] (row.length:Int)=true:=by simpa [bothB] using hb
   obtain ⟨n2,hn2,hok2,_⟩:=okm_of_isMat hb1.2
   have e2:n2=row.length:=by omega
   subst e2
   have hrs:∀j,j<row.length→(at0 row j).natAbs≤2:=fun j hj=>by
    have:=hok2.small row (by simp) j
    unfold bnd at this
    rwa [if_pos hj] at this
   obtain ⟨D,hfa⟩:=hSol.facts
   have hle:=hSol.okm.le6
   have hD:=hfa.hD;have hD2:=hfa.hD2
   obtain ⟨hsl,hrep⟩:=hfa.rep
   obtain ⟨e,f,hef,hR⟩:=dotR_small rfl hsl hle hD (by omega) hrs hrep (fun j=>by have:=hfa.small j;omega)
   have hR2:=hR
   rw [solN_dot row.length D P.reverse (at0 row) hfa.nod fun p hp=>(hfa.piv p hp).col] at hR
   refine ⟨e,f,true,?_,fun _=>⟨rfl,hb,(ci hb).1 rfl,P,Q,D,hSol,hfa,hR2⟩⟩
   unfold impl_ValueOf.f
   refine Ev.bind hI ?_
   simp only [if_true]
   refine Ev.bind cI ?_
   simp only [Bool.not_true]
   refine Ev.step (f:=fun k=>impl_ValueOf.l0 k row (row.length:Int) 0 1 (P.reverse.map (·.1)) (P.reverse.length:Int) ((0:Nat):Int)) (fun k=>?_) (valI_l0 hfa row rfl hrs hle e f hR P.reverse.length 0 0 1 (by omega) (by omega) (by omega) (by decide) (by simp [sumOver]))
   simp only [impl_ValueOf.j0]
   rw [if_neg (by decide),List.map_reverse,List.length_reverse,List.length_reverse,List.length_map]
   rfl
theorem two_laws {m:List (List Int)} {v row:List Int} {X Y:List S26} (h:TwoFacts m v row X Y):fitOf m v X=true∧fitOf m v Y=true∧∃e f e' f',dotR row X 0 1=(e,f,true)∧dotR row Y 0 1=(e',f',true)∧¬(e=e'∧f=f'):=by
 obtain ⟨⟨hsys,P,Q,hSol,hX⟩,lX,lY,hb,hns,u,hN,hadd⟩:=h
 have hlt:=few_pivs hSol hN rfl
 have hle:=hSol.okm.le6
 obtain ⟨D,hfa,hD5⟩:=hSol.facts5 (by omega)
 have hD:=hfa.hD
 obtain ⟨hsl,hrep⟩:=hfa.rep
 rw [← hX] at hrep
 have hsm:=hfa.small
 have hus:=hN.small
 have hMb:∀j,(solN row.length D P.reverse j+D*at0 u j).natAbs≤80000000:=fun j=>by
  have h1:=hsm j
  have h2:(D*at0 u j).natAbs≤3840*3840:=by
   rw [Int.natAbs_mul]
   exact Nat.mul_le_mul (by omega) (hus j)
  omega
 have hrepY:∀j (hj:j<Y.length),Rep D (solN row.length D P.reverse j+D*at0 u j) Y[j].f0 Y[j].f1:=fun j hj=>
  rep_add_one (hrep j (by omega)) hD (hadd j hj (by omega))
 have hfit:∀(i:Nat) (h1:i<m.length) (h2:i<v.length),dotN (solN row.length D P.reverse) (at0 m[i]) row.length=D*v[i]:=fun i h1 h2=>sol_fits hSol hfa i h1 h2
 have hfitY:∀(i:Nat) (h1:i<m.length) (h2:i<v.length),dotN (fun j=>solN row.length D P.reverse j+D*at0 u j) (at0 m[i]) row.length=D*v[i]:=fun i h1 h2=>by
  rw [dotN_lin,hfit i h1 h2,hN.zero _ (List.getElem_mem h1),Int.mul_zero,Int.add_zero]
 have hb1:isMat m (row.length:Int)=true∧isMat [row] (row.length:Int)=true:=by simpa [bothB] using hb
 obtain ⟨n2,hn2,hok2,_⟩:=okm_of_isMat hb1.2
 have e2:n2=row.length:=by omega
 subst e2
 have hrs:∀j,j<row.length→(at0 row j).natAbs≤2:=fun j hj=>by
  have:=hok2.small row (by simp) j
  unfold bnd at this
  rwa [if_pos hj] at this
 refine ⟨fits_rep hsys hSol.okm lX hD (by omega) hrep (fun j=>by have:=hsm j;omega) hfit,fits_rep hsys hSol.okm lY hD (by omega) hrepY hMb hfitY,?_⟩
 obtain ⟨e,f,he,hR⟩:=dotR_small (row:=row) rfl lX hle hD (by omega) hrs hrep (fun j=>by have:=hsm j;omega)
 obtain ⟨e',f',he',hR'⟩:=dotR_small (row:=row) rfl lY hle hD (by omega) hrs hrepY hMb
 refine ⟨e,f,e',f',he,he',?_⟩
 rintro ⟨rfl,rfl⟩
 rw [dotN_lin] at hR'
 have h1:=hR.2
 have h2:=hR'.2
 have hf:=(isR_iff e f).1 hR.1
 rw [Int.add_mul,h1] at h2
 have h3:D*dotN (at0 u) (at0 row) row.length*f=0:=by omega
 rcases Int.mul_eq_zero.1 h3 with h4|h4
 ·rcases Int.mul_eq_zero.1 h4 with h5|h5
  ·omega
  ·exact hN.one h5
 ·omega
theorem FnSolved:laws_FnSolved.Pure:=by
 intro l0 _ _ w0
 refine Ev.rounds ?_
 unfold laws_FnSolved.f
 simp only [big_eq,Option.bind_some]
 by_cases cb:(l0.length:Int) > 1048576
 ·simp only [decide_eq_true cb,if_true];exact Ev.now true
 have b_l0:l0.length≤1048576:=by omega
 simp only [decide_eq_false cb,Bool.false_eq_true,if_false]
 obtain ⟨m,v,row,hd,hm,hr,hv,hl⟩:=drawVal_ev l0 b_l0
 have hmr:∀x∈m,x.length≤16777216:=fun x hx=>by have:=hr x hx;omega
 obtain ⟨ok,S,SI,SS,Sl,SF,ST⟩:=sol_both m v (row.length:Int) (by omega) hmr (by omega)
 have hF:ok=false→Ev (fun k=>impl_solved.f k m v (row.length:Int)) ([],false):=fun h=>(SF h).2
 have hT:ok=true→isSys m v (row.length:Int)=true∧∃(P:List (List Int × Nat)) (Q:List (List Int)),Solved m v row.length P Q∧S=solOf row.length P.reverse∧Ev (fun k=>impl_solved.f k m v (row.length:Int)) ((P.map (·.1)).reverse,true):=fun h=>by
  obtain ⟨h1,n,P,Q,hn,h2,h3,h4⟩:=ST h
  have e:n=row.length:=by omega
  subst e
  exact ⟨h1,P,Q,h2,h3,h4⟩
 obtain ⟨a,b,told,VI,VT⟩:=value_impl m v row (by omega) hmr (by omega) ok hF fun h=>by
  obtain ⟨_,P,Q,h2,_,h4⟩:=hT h
  exact ⟨P,Q,h2,h4⟩
 obtain ⟨X,Y,two,TI,Xl,Yl,TT⟩:=two_both m v row (by omega) hmr (by omega) (by omega)
 obtain ⟨sp,spI,spi,_⟩:=implSpan_ev m row (by omega) hmr (by omega)
 have hsolv:Ev (fun k=>impl_IsSolvable.f k m v (row.length:Int)) ok:=by
  unfold impl_IsSolvable.f
  cases ok with
 |false=>exact Ev.bind (hF rfl) (Ev.now _)
 |true=>
   obtain ⟨_,P,Q,_,_,h4⟩:=hT rfl
   exact Ev.bind h4 (Ev.now _)
 have hSlen:S.length≤1000:=Sl
 have hj:Ev (fun k=>laws_FnSolved.j0 k m v row S false) true:=by
  cases told with
 |true=>
   obtain ⟨hok,hb,hsp,P,Q,D,hSol,hfa,hR⟩:=VT rfl
   obtain ⟨_,P',Q',hSol',hS,_⟩:=hT hok
   obtain rfl:=hSol'.unique hSol
   have htwo:two=false:=by
    cases two with
   |false=>rfl
   |true=>exact absurd hsp (TT rfl).nul.2.1
   subst htwo
   have hspt:sp=true:=(spi hb).2 hsp
   subst hspt
   have hb1:isMat m (row.length:Int)=true∧isMat [row] (row.length:Int)=true:=by simpa [bothB] using hb
   obtain ⟨n2,hn2,hok2,_⟩:=okm_of_isMat hb1.2
   have e2:n2=row.length:=by omega
   subst e2
   have hrs:∀j,j<row.length→(at0 row j).natAbs≤2:=fun j hj=>by
    have:=hok2.small row (by simp) j
    unfold bnd at this
    rwa [if_pos hj] at this
   have hle:=hSol.okm.le6
   have hD:=hfa.hD;have hD2:=hfa.hD2
   obtain ⟨hsl,hrep⟩:=hfa.rep
   rw [← hS] at hrep hsl
   obtain ⟨e,f,hef,hR2⟩:=dotR_small rfl hsl hle hD (by omega) hrs hrep (fun j=>by have:=hfa.small j;omega)
   obtain ⟨ea,eb⟩:=hR2.eq hR hD
   have hrow:=rowSum_ev row S (by omega) (by omega)
   rw [hef] at hrow
   refine Ev.step (f:=fun k=>(impl_ValueOf.f k m v row).bind fun bt=>(impl_TwoSolutions.f k m v row).bind fun ct=>if bt.2.2=true then (if ct.2.2=true then laws_FnSolved.j1 k m v row S bt.2.2 ct.1 ct.2.1 ct.2.2 true bt.1 bt.2.1 else (impl_IsInSpan.f k m row).bind fun t=>laws_FnSolved.j1 k m v row S bt.2.2 ct.1 ct.2.1 ct.2.2 (!t) bt.1 bt.2.1) else laws_FnSolved.j1 k m v row S bt.2.2 ct.1 ct.2.1 ct.2.2 false bt.1 bt.2.1) (fun k=>?_) (Ev.bind VI (Ev.bind TI ?_))
   ·simp only [laws_FnSolved.j0]
    rw [if_neg (by decide)]
   ·simp only [if_true,Bool.false_eq_true,if_false]
    refine Ev.bind spI ?_
    simp only [Bool.not_true]
    refine Ev.step (f:=fun k=>(laws_rowSum.f k row S).bind fun bt=>if bt.2.2=true then some (bt.1 == a && (bt.2.1 == b)) else some false) (fun k=>?_) (Ev.bind hrow ?_)
    ·simp only [laws_FnSolved.j1]
     rw [if_neg (by decide),if_pos trivial]
    ·simp only [if_true,ea,eb,beq_self_eq_true,Bool.and_self]
     exact Ev.now _
 |false=>
   refine Ev.step (f:=fun k=>(impl_ValueOf.f k m v row).bind fun bt=>(impl_TwoSolutions.f k m v row).bind fun ct=>if bt.2.2=true then (if ct.2.2=true then laws_FnSolved.j1 k m v row S bt.2.2 ct.1 ct.2.1 ct.2.2 true bt.1 bt.2.1 else (impl_IsInSpan.f k m row).bind fun t=>laws_FnSolved.j1 k m v row S bt.2.2 ct.1 ct.2.1 ct.2.2 (!t) bt.1 bt.2.1) else laws_FnSolved.j1 k m v row S bt.2.2 ct.1 ct.2.1 ct.2.2 false bt.1 bt.2.1) (fun k=>?_) (Ev.bind VI (Ev.bind TI ?_))
   ·simp only [laws_FnSolved.j0]
    rw [if_neg (by decide)]
   ·simp only [Bool.false_eq_true,if_false]
    cases two with
   |false=>
     refine Ev.step (f:=fun _=>some true) (fun k=>?_) (Ev.now _)
     simp only [laws_FnSolved.j1]
     rw [if_neg (by decide),if_neg (by decide),if_neg (by decide)]
   |true=>
     obtain ⟨fX,fY,e,f,e',f',hX,hY,hne⟩:=two_laws (TT rfl)
     have rX:=rowSum_ev row X (by omega) (by omega)
     have rY:=rowSum_ev row Y (by omega) (by omega)
     have iX:=fitI_ev m v X (by omega) hmr (by omega) (by omega)
     have iY:=fitI_ev m v Y (by omega) hmr (by omega) (by omega)
     rw [hX] at rX
     rw [hY] at rY
     rw [fX] at iX
     rw [fY] at iY
     refine Ev.step (f:=fun k=>(laws_rowSum.f k row X).bind fun bt=>(laws_rowSum.f k row Y).bind fun ct=>(impl_FitsSystem.f k m v X).bind fun t=>if t=true then ((impl_FitsSystem.f k m v Y).bind fun u=>if u=true then (if bt.2.2=true then (if ct.2.2=true then some (!(bt.1 == ct.1) || (!(bt.2.1 == ct.2.1))) else some false) else some false) else some false) else some false) (fun k=>?_) (Ev.bind rX (Ev.bind rY (Ev.bind iX ?_)))
     ·simp only [laws_FnSolved.j1]
      rw [if_neg (by decide),if_neg (by decide),if_pos trivial]
     ·simp only [if_true]
      refine Ev.bind iY ?_
      simp only [if_true]
      have hres:(!(e == e') || !(f == f'))=true:=by
       by_cases h1:e=e'
       ·by_cases h2:f=f'
        ·exact absurd ⟨h1,h2⟩ hne
        ·rw [show (f == f')=false from beq_eq_false_iff_ne.2 h2];simp
       ·rw [show (e == e')=false from beq_eq_false_iff_ne.2 h1];rfl
      rw [hres]
      exact Ev.now _
 refine Ev.bind hd ?_
 refine Ev.bind SI ?_
 refine Ev.bind SS ?_
 simp only [bne_self_eq_false,Bool.false_eq_true,if_false]
 refine Ev.bind hsolv ?_
 simp only [bne_self_eq_false,Bool.false_eq_true,if_false]
 cases ok with
|false=>
  simp only [Bool.false_eq_true,if_false]
  exact hj
|true=>
  simp only [if_true]
  obtain ⟨hsys,P,Q,hSol,hS,_⟩:=hT rfl
  obtain ⟨D,hfa⟩:=hSol.facts
  have hD:=hfa.hD;have hD2:=hfa.hD2
  obtain ⟨hsl,hrep⟩:=hfa.rep
  rw [← hS] at hrep hsl
  have hfit:=fits_rep hsys hSol.okm hsl hD (by omega) hrep (fun j=>by have:=hfa.small j;omega) fun i h1 h2=>sol_fits hSol hfa i h1 h2
  have iS:=fitI_ev m v S (by omega) hmr (by omega) (by omega)
  rw [hfit] at iS
  refine Ev.bind iS ?_
  simp only [Bool.not_true]
  exact hj
end Go.Proofs.Ytojkepidkmkmpaa.Pure
end
section
namespace Go.Proofs.Ytojkepidkmkmpaa.fnSolved
open Go.ChangeShapes Go.WideShapes Go.ChangeAt Go.RowKit
open Go.ChangeMaps (open_string shut_string)
set_option linter.unusedVariables false
theorem own:ownKnob Try.prog.godebug=none:=by kernel_rfl
theorem laidOut:laidOutB Try.prog=true:=by kernel_rfl
def IsRow (k:IntKind) (w:World) (a:Option Addr) (len cap:Nat) (zs:List Int):Prop:=
 (a=none∧len=0∧cap=0∧zs=[])∨
 ∃x,a=some x∧len≤cap∧cap≤maxLen∧zs.length=cap∧(∀i,i<zs.length→w.cell? (x.add i)=some (.int k (zs.getD i 0)))∧∀n∈zs,(Lit.int k n).wf=true
set_option maxRecDepth 100000 in
theorem lifted (os : Os) (started : os.Started) (H : Type) (enc : TypeId × Value → H) :
  ReturnsInHanded {} Try.checked os 4 .any (Rows.fnSolvedSpec.pre6 enc Try.prog Try.f4 Rows.fnSolvedRow.domain false) (Rows.fnSolvedSpec.post enc Try.prog Try.f4 false true false false) := by
 refine returnsInHanded_of_change_sized (C := Try.checked) own started (by kernel_rfl) Try.func4
  (ChangeSpec.witness6 (enc := enc) (C := Try.checked) false ⟨#[], #[.slice none 0 0], []⟩ 8 (by kernel_rfl) (by kernel_rfl) (by kernel_rfl) (by kernel_rfl)) ?_
 intro W base args ds gs before hval0 hW hcnd hsz0 _
 have hsz : (DataW.weightsEach Try.prog (Try.f4.params.toList ++ Rows.fnSolvedSpec.plain.varTypes Try.prog) (ds ++ gs)).all (· ≤ reachBytes) = true := hsz0
 have hval : ∀ (j : Nat) t v, Try.f4.params[j]? = some t → args[j]? = some v → Value.okWide Try.prog W .any base t v := hval0
 have hW' := hW
 obtain ⟨p, q, hA0, hV, rfl, hfz, hnd⟩ := hW
 have hA : DataW.TrodAll enc Try.prog W 0 (fun _ => true) true Try.f4.params.toList args.toList ds p := hA0
 rw [Try.params4] at hA hval hsz
 obtain ⟨v0, vs0, d0, ds0, p0, q0, hargs, rfl, rfl, h0, r0⟩ := trodAll_cons hA
 obtain ⟨rfl, rfl, rfl⟩ := trodAll_nil r0
 obtain rfl : args = #[v0] := by cases args;simp_all
 obtain ⟨rfl, rfl⟩ := trodVars_none hV
 obtain ⟨a0, len0, cap0, rfl⟩ := okWide_slice Try.underlying35 (hval 0 35 v0 rfl rfl)
 have k0 := h0
 have lt0 : ∀ x ∈ p0, x.block < W.heap.size := by obtain ⟨m, hm⟩ := k0;exact DataW.trod_lt m _ _ _ hm
 obtain ⟨z0, w0⟩ : ∃ zs, IsRow .u8 W a0 len0 cap0 zs := by
  obtain ⟨fuel, hf⟩ := h0
  rcases open_ints Try.underlying35 Try.underlying5 (by kernel_rfl) hf with ⟨hcs, _⟩|⟨x, l, c, zs, hcs, _, hl, hm, hz, _, hcell, hwz⟩
  ·simp [Value.cells] at hcs
   obtain ⟨rfl, rfl, rfl⟩ := hcs
   exact ⟨[], .inl ⟨rfl, rfl, rfl, rfl⟩⟩
  ·simp [Value.cells] at hcs
   obtain ⟨rfl, rfl, rfl⟩ := hcs
   exact ⟨zs, .inr ⟨_, rfl, hl, hm, by simpa using hz, hcell, hwz⟩⟩
 have y0 : len0 * 1 ≤ 140737488351232 := Go.Proofs.YtojkepidkmkmpaaW.PrintWords.sized_ints hsz (j := 0) (t := 35) rfl rfl Try.underlying35 Try.underlying5 (by kernel_rfl) (by kernel_rfl) h0
 clear hA0 hval0 hsz0 hsz
 refine (PFnSolved.laws_FnSolved.walk Pure.FnSolved a0 len0 cap0 z0 W w0 y0).mono fun e W' ⟨he, bel⟩ => ?_
 subst he
 exact ⟨_, rfl, _, _, _, [], _, [], hW', trodAll_mk1 (shut_bool Try.underlying4 _), (trodAll_cons_mk (Below.trod laidOut (by kernel_rfl) (of_decide_eq_true (by kernel_rfl)) k0 bel lt0) trodAll_mk0), rfl, bel.frame _, fun h => by cases h⟩
theorem over:Rows.fnSolvedRow.holds Try.pinned (OpenSpec.ofChange Rows.fnSolvedSpec):=
 OpenClaim.holds_of_wide 4 Try.f4 rfl rfl rfl rfl rfl rfl rfl ⟨rfl,rfl,rfl,rfl,rfl⟩ rfl rfl rfl rfl rfl (by kernel_rfl) Try.func4 (by kernel_rfl)
  (of_decide_eq_true (by kernel_rfl)) (by unfold Func.isWrapper;first|(rw [if_pos (by decide +kernel)];kernel_rfl)|(rw [if_neg (by decide +kernel)];exact ⟨rfl,rfl⟩))
  (fun os started H enc _=>lifted os started H enc)
theorem proved:Rows.FnSolvedSaid:=over
#print axioms proved
end Go.Proofs.Ytojkepidkmkmpaa.fnSolved
namespace Go.Proofs.Ytojkepidkmkmpaa
theorem fnSolved_holds:Rows.FnSolvedSaid:=fnSolved.proved
end Go.Proofs.Ytojkepidkmkmpaa
end
