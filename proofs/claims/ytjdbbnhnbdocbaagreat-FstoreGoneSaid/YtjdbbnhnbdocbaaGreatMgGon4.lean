import Derived.Test.YtjdbbnhnbdocbaaGreatMgGon3
import Derived.BigGuard
import Derived.Test.YtjdbbnhnbdocbaaGreatMgGon2
import Derived.Laws.Entries
import Derived.Laws.StructEq
import Derived.ChangeKeysEq
namespace Go.Tn
open Go.RowKit
inductive Tr where
 | nil
 | one (i t:Nat) (r:Tr)
 | two (i j:Nat) (ri rj:Tr)
def Tr.height:Tr→Nat
 | .nil=>0
 | .one _ _ r=>r.height+1
 | .two _ _ ri _=>ri.height+1
section
variable {P:Program} {ops:Array Oper} {Q:Exit→Act→World→Prop} {S:World→Prop}
def stepsT (ops:Array Oper) (full:List (Nat×Nat)):Tr→Array Bool→Bool
 | .nil,listed=>(Region.ready .any ops listed).isEmpty
 | .one i t r,listed=>
  (match ops[i]? with
   | some o=>o.guard.isNone&&decide (i<listed.size)&&full.contains (i,t)&&
    (if t=0∨t=1 then Region.free .any ops listed i&&(Region.ready .any ops listed).contains i else decide (Region.ready .any ops listed= [i]))
   | none=>false)&&stepsT ops full r (listed.setIfInBounds i true)
 | .two i j ri rj,listed=>
  (match ops[i]?,ops[j]? with
   | some o,some o'=>o.guard.isNone&&o'.guard.isNone&&decide (i<listed.size)&&decide (j<listed.size)&&full.contains (i,2)&&full.contains (j,2)&&decide (ri.height=rj.height)&&decide (Region.ready .any ops listed= [i,j])
   | _,_=>false)&&stepsT ops full ri (listed.setIfInBounds i true)&&stepsT ops full rj (listed.setIfInBounds j true)
def orderT (ops:Array Oper) (full:List (Nat×Nat)) (tr:Tr):Bool:=
 Region.noSelect ops&&decide (tr.height=ops.size)&&gatesB ops full&&stepsT ops full tr (Array.replicate ops.size false)&&decide (full.map (·.1)).Nodup&&full.all fun x=>decide (x.2≤3)
def wpT (P:Program) (ops:Array Oper) (Q:Exit→Act→World→Prop) (S:World→Prop):Tr→Act→World→Prop
 | .nil,a,w=>Q .normal a w
 | .one i t r,a,w=> ∃o,ops[i]?=some o∧
  match t with
  | 0=>S w∧ ∃v,(∀w,S w→(execOp a.eval o).run P w= .ok (.value v) w)∧wpT P ops Q S r (a.put o.dst v) w
  | 1=> ∃v,(∀w,(execOp a.eval o).run P w= .ok (.value v) w)∧wpT P ops Q S r (a.put o.dst v) w
  | 2=>o.wp P a w (fun a' w'=>S w'∧wpT P ops Q S r a' w') Q
  | _=>o.wp P a w (wpT P ops Q S r) Q∨(o.asks P a w∧LetsOut Q)
 | .two i j ri rj,a,w=>(∃o,ops[i]?=some o∧o.wp P a w (fun a' w'=>S w'∧wpT P ops Q S ri a' w') Q)∧(∃o,ops[j]?=some o∧o.wp P a w (fun a' w'=>S w'∧wpT P ops Q S rj a' w') Q)
theorem kindOf_tag {full:List (Nat×Nat)} (hnd:(full.map (·.1)).Nodup) {i t:Nat} (h:(i,t)∈full):kindOf full i=(match t with|0=>0|1=>0|2=>1|_=>2):=by
 unfold kindOf
 rw [kindOf_mem hnd h]
 match t with
 | 0=>rfl
 | 1=>rfl
 | 2=>rfl
 | t+3=>rfl
theorem anyX_of_wpT {full:List (Nat×Nat)} (hsel:Region.noSelect ops=true) (hQ: ∀d v c a w,Q (.panic c) (Act.put a d v) w→Q (.panic c) a w) (hnd:(full.map (·.1)).Nodup) (hg:gatesB ops full=true) (h3: ∀x∈full,x.2≤3):
  ∀(tr:Tr) (listed:Array Bool) (a:Act) (w:World),Cl ops listed→stepsT ops full tr listed=true→wpT P ops Q S tr a w→anyX P ops Q S (kindOf full) tr.height listed a w
 | .nil,listed,a,w,_,hB,h=>⟨by simpa [stepsT] using hB,h⟩
 | .one i t r,listed,a,w,hcl,hB,h=>by
  simp only [stepsT,Bool.and_eq_true] at hB
  obtain ⟨h1,h2⟩:=hB
  obtain ⟨o,ho,h⟩:=h
  simp only [ho,Bool.and_eq_true,Option.isNone_iff_eq_none,decide_eq_true_eq] at h1
  obtain ⟨⟨⟨hgd,hlt⟩,hmem⟩,h1⟩:=h1
  have hw:Region.wanted o (yielded ops a.tmps)=true:=by simp [Region.wanted,hgd]
  have hmem:(i,t)∈full:=by simpa using hmem
  have hk:=kindOf_tag hnd hmem
  rcases t with _|_|_|t
  ·obtain ⟨hS,v,hv,hn⟩:=h
   simp only [true_or,if_true,Bool.and_eq_true] at h1
   have hr:i∈Region.ready .any ops listed:=by simpa using h1.2
   exact anyX_read ho hk (kindOf_three full) (Region.noSelect_spec hsel) hQ (fun listed' hun hcl'=>gates_spec hnd hg hmem h3 listed' (getD_both hun) hcl'.closed) r.height listed a w hcl (Region.free_spec ho h1.1) hr
    (.inl ⟨hw,hv⟩) hS (anyX_of_wpT hsel hQ hnd hg h3 r _ _ _ (hcl.set hr) h2 hn)
  ·obtain ⟨v,hv,hn⟩:=h
   simp only [Nat.zero_add,or_true,if_true,Bool.and_eq_true] at h1
   have hr:i∈Region.ready .any ops listed:=by simpa using h1.2
   exact anyX_take ho hk (Region.noSelect_spec hsel) hQ r.height listed a w (Region.free_spec ho h1.1) hr (.inl ⟨hw,hv⟩) (anyX_of_wpT hsel hQ hnd hg h3 r _ _ _ (hcl.set hr) h2 hn)
  ·have hr:Region.ready .any ops listed= [i]:=by simpa using h1
   refine ⟨fun h0=>absurd (hr ▸ h0) (by simp),fun j hj=> ?_⟩
   obtain rfl:j=i:=by rw [hr] at hj;simpa using hj
   unfold wpOp
   simp only [ho,hw,if_true]
   refine .inl (Oper.wp_mono (fun a' w' h'=>⟨⟨fun h0=> ?_,fun _=>h'.1⟩,anyX_of_wpT hsel hQ hnd hg h3 r _ a' w' (hcl.set hj) h2 h'.2⟩) h)
   rw [hk] at h0;cases h0
  ·have hr:Region.ready .any ops listed= [i]:=by simpa using h1
   refine ⟨fun h0=>absurd (hr ▸ h0) (by simp),fun j hj=> ?_⟩
   obtain rfl:j=i:=by rw [hr] at hj;simpa using hj
   unfold wpOp
   simp only [ho,hw,if_true]
   refine h.imp (Oper.wp_mono (fun a' w' h'=>⟨⟨fun h0=> ?_,fun h0=> ?_⟩,anyX_of_wpT hsel hQ hnd hg h3 r _ a' w' (hcl.set hj) h2 h'⟩)) id
   ·rw [hk] at h0;cases h0
   ·rw [hk] at h0;cases h0
 | .two i j ri rj,listed,a,w,hcl,hB,h=>by
  simp only [stepsT,Bool.and_eq_true] at hB
  obtain ⟨⟨h1,h2⟩,h2'⟩:=hB
  obtain ⟨⟨o,ho,h⟩,⟨o',ho',h'⟩⟩:=h
  simp only [ho,ho',Bool.and_eq_true,Option.isNone_iff_eq_none,decide_eq_true_eq] at h1
  obtain ⟨⟨⟨⟨⟨⟨⟨hgd,hgd'⟩,_⟩,_⟩,hmi⟩,hmj⟩,hh⟩,hr⟩:=h1
  have hw:Region.wanted o (yielded ops a.tmps)=true:=by simp [Region.wanted,hgd]
  have hw':Region.wanted o' (yielded ops a.tmps)=true:=by simp [Region.wanted,hgd']
  have hki:=kindOf_tag hnd (show (i,2)∈full by simpa using hmi)
  have hkj:=kindOf_tag hnd (show (j,2)∈full by simpa using hmj)
  refine ⟨fun h0=>absurd (hr ▸ h0) (by simp),fun k hk=> ?_⟩
  have hk':k=i∨k=j:=by rw [hr] at hk;simpa using hk
  by_cases hki':k=i
  ·subst hki'
   unfold wpOp
   simp only [ho,hw,if_true]
   refine .inl (Oper.wp_mono (fun a' w' h''=>⟨⟨fun h0=> ?_,fun _=>h''.1⟩,anyX_of_wpT hsel hQ hnd hg h3 ri _ a' w' (hcl.set hk) h2 h''.2⟩) h)
   rw [hki] at h0;cases h0
  ·obtain rfl:k=j:=hk'.resolve_left hki'
   unfold wpOp
   simp only [ho',hw',if_true]
   refine .inl (Oper.wp_mono (fun a' w' h''=>⟨⟨fun h0=> ?_,fun _=>h''.1⟩,?_⟩) h')
   ·rw [hkj] at h0;cases h0
   ·show anyX P ops Q S (kindOf full) ri.height _ a' w'
    rw [hh]
    exact anyX_of_wpT hsel hQ hnd hg h3 rj _ a' w' (hcl.set hk) h2' h''.2
theorem wp_region_t {id:Nat} {ops:Array Oper} {a:Act} {w:World} (S:World→Prop) (full:List (Nat×Nat)) (tr:Tr) (hm:P.follows .mixedOrders=true) (hB:orderT ops full tr=true)
  (hQ: ∀d v c a w,Q (.panic c) (Act.put a d v) w→Q (.panic c) a w) (h:wpT P ops Q S tr a w.drew):(Code.region id ops true).wp P Q a w:=by
 simp only [orderT,Bool.and_eq_true,decide_eq_true_eq,List.all_eq_true] at hB
 obtain ⟨⟨⟨⟨⟨hsel,hlen⟩,hg⟩,hs⟩,hnd⟩,h3⟩:=hB
 refine wp_region_any hm (wpAny_of_anyX (S:=S) (k:=kindOf full) _ _ _ _ ?_)
 have:=anyX_of_wpT hsel hQ hnd hg h3 tr (Array.replicate ops.size false) a w.drew ⟨by simp,fun j oj _ hl=>(by rw [getD_replicate_false] at hl;cases hl)⟩ hs h
 rw [hlen] at this
 exact this
theorem t_nil {a:Act} {w:World} (h:Q .normal a w):wpT P ops Q S .nil a w:=h
theorem t_read {i:Nat} {r:Tr} {a:Act} {w:World} {o:Oper} (ho:ops[i]?=some o) (hS:S w) {v:Value} (hv: ∀w,S w→(execOp a.eval o).run P w= .ok (.value v) w) (h:wpT P ops Q S r (a.put o.dst v) w):wpT P ops Q S (.one i 0 r) a w:=
 ⟨o,ho,hS,v,hv,h⟩
theorem t_take {i:Nat} {r:Tr} {a:Act} {w:World} {o:Oper} (ho:ops[i]?=some o) (h: ∀K:Act→Prop,(∀a,wpT P ops Q S r a w→K a)→ ∃v,(∀w,(execOp a.eval o).run P w= .ok (.value v) w)∧K (a.put o.dst v)):wpT P ops Q S (.one i 1 r) a w:=by
 obtain ⟨v,hv,hn⟩:=h _ (fun _ h=>h)
 exact ⟨o,ho,v,hv,hn⟩
theorem t_show' {i:Nat} {r:Tr} {a:Act} {w:World} {o:Oper} (ho:ops[i]?=some o) (h: ∀K:Act→World→Prop,(∀a w,S w→wpT P ops Q S r a w→K a w)→o.wp P a w K Q):wpT P ops Q S (.one i 2 r) a w:=
 ⟨o,ho,h _ fun _ _ h1 h2=>⟨h1,h2⟩⟩
theorem t_skip {i:Nat} {r:Tr} {a:Act} {w:World} {o:Oper} (ho:ops[i]?=some o) {w':World} (hr:(execOp a.eval o).run P w= .ok .skip w') (h:wpT P ops Q S r (a.put o.dst undef) w'):wpT P ops Q S (.one i 3 r) a w:=by
 refine ⟨o,ho, .inl ?_⟩
 simp only [Oper.wp,hr,Oper.upon]
 exact h
theorem t_two {i j:Nat} {ri rj:Tr} {a:Act} {w:World} {o o':Oper} (ho:ops[i]?=some o) (ho':ops[j]?=some o') (h: ∀K:Act→World→Prop,(∀a w,S w→wpT P ops Q S ri a w→K a w)→o.wp P a w K Q) (h': ∀K:Act→World→Prop,(∀a w,S w→wpT P ops Q S rj a w→K a w)→o'.wp P a w K Q):wpT P ops Q S (.two i j ri rj) a w:=
 ⟨⟨o,ho,h _ fun _ _ h1 h2=>⟨h1,h2⟩⟩,⟨o',ho',h' _ fun _ _ h1 h2=>⟨h1,h2⟩⟩⟩
end
inductive Tz where
 | nil
 | one (i t:Nat) (r:Tz)
 | two (i j:Nat) (ri rj:Tz)
 | three (i j k:Nat) (ri rj rk:Tz)
def Tz.height:Tz→Nat
 | .nil=>0
 | .one _ _ r=>r.height+1
 | .two _ _ ri _=>ri.height+1
 | .three _ _ _ ri _ _=>ri.height+1
section
variable {P:Program} {ops:Array Oper} {Q:Exit→Act→World→Prop} {S:World→Prop}
def stepsZ (ops:Array Oper) (full:List (Nat×Nat)):Tz→Array Bool→Bool
 | .nil,listed=>(Region.ready .any ops listed).isEmpty
 | .one i t r,listed=>
  (match ops[i]? with
   | some o=>o.guard.isNone&&decide (i<listed.size)&&full.contains (i,t)&&
    (if t=0∨t=1 then Region.free .any ops listed i&&(Region.ready .any ops listed).contains i else decide (Region.ready .any ops listed= [i]))
   | none=>false)&&stepsZ ops full r (listed.setIfInBounds i true)
 | .two i j ri rj,listed=>
  (match ops[i]?,ops[j]? with
   | some o,some o'=>o.guard.isNone&&o'.guard.isNone&&decide (i<listed.size)&&decide (j<listed.size)&&full.contains (i,2)&&full.contains (j,2)&&decide (ri.height=rj.height)&&decide (Region.ready .any ops listed= [i,j])
   | _,_=>false)&&stepsZ ops full ri (listed.setIfInBounds i true)&&stepsZ ops full rj (listed.setIfInBounds j true)
 | .three i j k ri rj rk,listed=>
  (match ops[i]?,ops[j]?,ops[k]? with
   | some o,some o',some o''=>o.guard.isNone&&o'.guard.isNone&&o''.guard.isNone&&full.contains (i,2)&&full.contains (j,2)&&full.contains (k,2)&&decide (ri.height=rj.height)&&decide (ri.height=rk.height)&&decide (Region.ready .any ops listed= [i,j,k])
   | _,_,_=>false)&&stepsZ ops full ri (listed.setIfInBounds i true)&&stepsZ ops full rj (listed.setIfInBounds j true)&&stepsZ ops full rk (listed.setIfInBounds k true)
def orderZ (ops:Array Oper) (full:List (Nat×Nat)) (tr:Tz):Bool:=
 Region.noSelect ops&&decide (tr.height=ops.size)&&gatesB ops full&&stepsZ ops full tr (Array.replicate ops.size false)&&decide (full.map (·.1)).Nodup&&full.all fun x=>decide (x.2≤3)
def wpZ (P:Program) (ops:Array Oper) (Q:Exit→Act→World→Prop) (S:World→Prop):Tz→Act→World→Prop
 | .nil,a,w=>Q .normal a w
 | .one i t r,a,w=> ∃o,ops[i]?=some o∧
  match t with
  | 0=>S w∧ ∃v,(∀w,S w→(execOp a.eval o).run P w= .ok (.value v) w)∧wpZ P ops Q S r (a.put o.dst v) w
  | 1=> ∃v,(∀w,(execOp a.eval o).run P w= .ok (.value v) w)∧wpZ P ops Q S r (a.put o.dst v) w
  | 2=>o.wp P a w (fun a' w'=>S w'∧wpZ P ops Q S r a' w') Q
  | _=>o.wp P a w (wpZ P ops Q S r) Q∨(o.asks P a w∧LetsOut Q)
 | .two i j ri rj,a,w=>(∃o,ops[i]?=some o∧o.wp P a w (fun a' w'=>S w'∧wpZ P ops Q S ri a' w') Q)∧(∃o,ops[j]?=some o∧o.wp P a w (fun a' w'=>S w'∧wpZ P ops Q S rj a' w') Q)
 | .three i j k ri rj rk,a,w=>(∃o,ops[i]?=some o∧o.wp P a w (fun a' w'=>S w'∧wpZ P ops Q S ri a' w') Q)∧(∃o,ops[j]?=some o∧o.wp P a w (fun a' w'=>S w'∧wpZ P ops Q S rj a' w') Q)∧(∃o,ops[k]?=some o∧o.wp P a w (fun a' w'=>S w'∧wpZ P ops Q S rk a' w') Q)
theorem kindOf_tagZ {full:List (Nat×Nat)} (hnd:(full.map (·.1)).Nodup) {i t:Nat} (h:(i,t)∈full):kindOf full i=(match t with|0=>0|1=>0|2=>1|_=>2):=by
 unfold kindOf
 rw [kindOf_mem hnd h]
 match t with
 | 0=>rfl
 | 1=>rfl
 | 2=>rfl
 | t+3=>rfl
theorem anyX_of_wpZ {full:List (Nat×Nat)} (hsel:Region.noSelect ops=true) (hQ: ∀d v c a w,Q (.panic c) (Act.put a d v) w→Q (.panic c) a w) (hnd:(full.map (·.1)).Nodup) (hg:gatesB ops full=true) (h3: ∀x∈full,x.2≤3):
  ∀(tr:Tz) (listed:Array Bool) (a:Act) (w:World),Cl ops listed→stepsZ ops full tr listed=true→wpZ P ops Q S tr a w→anyX P ops Q S (kindOf full) tr.height listed a w
 | .nil,listed,a,w,_,hB,h=>⟨by simpa [stepsZ] using hB,h⟩
 | .one i t r,listed,a,w,hcl,hB,h=>by
  simp only [stepsZ,Bool.and_eq_true] at hB
  obtain ⟨h1,h2⟩:=hB
  obtain ⟨o,ho,h⟩:=h
  simp only [ho,Bool.and_eq_true,Option.isNone_iff_eq_none,decide_eq_true_eq] at h1
  obtain ⟨⟨⟨hgd,hlt⟩,hmem⟩,h1⟩:=h1
  have hw:Region.wanted o (yielded ops a.tmps)=true:=by simp [Region.wanted,hgd]
  have hmem:(i,t)∈full:=by simpa using hmem
  have hk:=kindOf_tagZ hnd hmem
  rcases t with _|_|_|t
  ·obtain ⟨hS,v,hv,hn⟩:=h
   simp only [true_or,if_true,Bool.and_eq_true] at h1
   have hr:i∈Region.ready .any ops listed:=by simpa using h1.2
   exact anyX_read ho hk (kindOf_three full) (Region.noSelect_spec hsel) hQ (fun listed' hun hcl'=>gates_spec hnd hg hmem h3 listed' (getD_both hun) hcl'.closed) r.height listed a w hcl (Region.free_spec ho h1.1) hr
    (.inl ⟨hw,hv⟩) hS (anyX_of_wpZ hsel hQ hnd hg h3 r _ _ _ (hcl.set hr) h2 hn)
  ·obtain ⟨v,hv,hn⟩:=h
   simp only [Nat.zero_add,or_true,if_true,Bool.and_eq_true] at h1
   have hr:i∈Region.ready .any ops listed:=by simpa using h1.2
   exact anyX_take ho hk (Region.noSelect_spec hsel) hQ r.height listed a w (Region.free_spec ho h1.1) hr (.inl ⟨hw,hv⟩) (anyX_of_wpZ hsel hQ hnd hg h3 r _ _ _ (hcl.set hr) h2 hn)
  ·have hr:Region.ready .any ops listed= [i]:=by simpa using h1
   refine ⟨fun h0=>absurd (hr ▸ h0) (by simp),fun j hj=> ?_⟩
   obtain rfl:j=i:=by rw [hr] at hj;simpa using hj
   unfold wpOp
   simp only [ho,hw,if_true]
   refine .inl (Oper.wp_mono (fun a' w' h'=>⟨⟨fun h0=> ?_,fun _=>h'.1⟩,anyX_of_wpZ hsel hQ hnd hg h3 r _ a' w' (hcl.set hj) h2 h'.2⟩) h)
   rw [hk] at h0;cases h0
  ·have hr:Region.ready .any ops listed= [i]:=by simpa using h1
   refine ⟨fun h0=>absurd (hr ▸ h0) (by simp),fun j hj=> ?_⟩
   obtain rfl:j=i:=by rw [hr] at hj;simpa using hj
   unfold wpOp
   simp only [ho,hw,if_true]
   refine h.imp (Oper.wp_mono (fun a' w' h'=>⟨⟨fun h0=> ?_,fun h0=> ?_⟩,anyX_of_wpZ hsel hQ hnd hg h3 r _ a' w' (hcl.set hj) h2 h'⟩)) id
   ·rw [hk] at h0;cases h0
   ·rw [hk] at h0;cases h0
 | .two i j ri rj,listed,a,w,hcl,hB,h=>by
  simp only [stepsZ,Bool.and_eq_true] at hB
  obtain ⟨⟨h1,h2⟩,h2'⟩:=hB
  obtain ⟨⟨o,ho,h⟩,⟨o',ho',h'⟩⟩:=h
  simp only [ho,ho',Bool.and_eq_true,Option.isNone_iff_eq_none,decide_eq_true_eq] at h1
  obtain ⟨⟨⟨⟨⟨⟨⟨hgd,hgd'⟩,_⟩,_⟩,hmi⟩,hmj⟩,hh⟩,hr⟩:=h1
  have hw:Region.wanted o (yielded ops a.tmps)=true:=by simp [Region.wanted,hgd]
  have hw':Region.wanted o' (yielded ops a.tmps)=true:=by simp [Region.wanted,hgd']
  have hki:=kindOf_tagZ hnd (show (i,2)∈full by simpa using hmi)
  have hkj:=kindOf_tagZ hnd (show (j,2)∈full by simpa using hmj)
  refine ⟨fun h0=>absurd (hr ▸ h0) (by simp),fun k hk=> ?_⟩
  have hk':k=i∨k=j:=by rw [hr] at hk;simpa using hk
  by_cases hki':k=i
  ·subst hki'
   unfold wpOp
   simp only [ho,hw,if_true]
   refine .inl (Oper.wp_mono (fun a' w' h''=>⟨⟨fun h0=> ?_,fun _=>h''.1⟩,anyX_of_wpZ hsel hQ hnd hg h3 ri _ a' w' (hcl.set hk) h2 h''.2⟩) h)
   rw [hki] at h0;cases h0
  ·obtain rfl:k=j:=hk'.resolve_left hki'
   unfold wpOp
   simp only [ho',hw',if_true]
   refine .inl (Oper.wp_mono (fun a' w' h''=>⟨⟨fun h0=> ?_,fun _=>h''.1⟩,?_⟩) h')
   ·rw [hkj] at h0;cases h0
   ·show anyX P ops Q S (kindOf full) ri.height _ a' w'
    rw [hh]
    exact anyX_of_wpZ hsel hQ hnd hg h3 rj _ a' w' (hcl.set hk) h2' h''.2
 | .three i j k ri rj rk,listed,a,w,hcl,hB,h=>by
  simp only [stepsZ,Bool.and_eq_true] at hB
  obtain ⟨⟨⟨h1,h2⟩,h2'⟩,h2''⟩:=hB
  obtain ⟨⟨o,ho,h⟩,⟨o',ho',h'⟩,⟨o'',ho'',h''⟩⟩:=h
  simp only [ho,ho',ho'',Bool.and_eq_true,Option.isNone_iff_eq_none,decide_eq_true_eq] at h1
  obtain ⟨⟨⟨⟨⟨⟨⟨⟨hgd,hgd'⟩,hgd''⟩,hmi⟩,hmj⟩,hmk⟩,hh⟩,hhk⟩,hr⟩:=h1
  have hw:Region.wanted o (yielded ops a.tmps)=true:=by simp [Region.wanted,hgd]
  have hw':Region.wanted o' (yielded ops a.tmps)=true:=by simp [Region.wanted,hgd']
  have hw'':Region.wanted o'' (yielded ops a.tmps)=true:=by simp [Region.wanted,hgd'']
  have hki:=kindOf_tagZ hnd (show (i,2)∈full by simpa using hmi)
  have hkj:=kindOf_tagZ hnd (show (j,2)∈full by simpa using hmj)
  have hkk:=kindOf_tagZ hnd (show (k,2)∈full by simpa using hmk)
  refine ⟨fun h0=>absurd (hr ▸ h0) (by simp),fun q hk=> ?_⟩
  have hk':q=i∨q=j∨q=k:=by rw [hr] at hk;simpa using hk
  by_cases hqi:q=i
  ·subst hqi
   unfold wpOp
   simp only [ho,hw,if_true]
   refine .inl (Oper.wp_mono (fun a' w' h''=>⟨⟨fun h0=> ?_,fun _=>h''.1⟩,anyX_of_wpZ hsel hQ hnd hg h3 ri _ a' w' (hcl.set hk) h2 h''.2⟩) h)
   rw [hki] at h0;cases h0
  ·by_cases hqj:q=j
   ·subst hqj
    unfold wpOp
    simp only [ho',hw',if_true]
    refine .inl (Oper.wp_mono (fun a' w' h''=>⟨⟨fun h0=> ?_,fun _=>h''.1⟩,?_⟩) h')
    ·rw [hkj] at h0;cases h0
    ·show anyX P ops Q S (kindOf full) ri.height _ a' w'
     rw [hh]
     exact anyX_of_wpZ hsel hQ hnd hg h3 rj _ a' w' (hcl.set hk) h2' h''.2
   ·obtain rfl:q=k:=(hk'.resolve_left hqi).resolve_left hqj
    unfold wpOp
    simp only [ho'',hw'',if_true]
    refine .inl (Oper.wp_mono (fun a' w' h''=>⟨⟨fun h0=> ?_,fun _=>h''.1⟩,?_⟩) h'')
    ·rw [hkk] at h0;cases h0
    ·show anyX P ops Q S (kindOf full) ri.height _ a' w'
     rw [hhk]
     exact anyX_of_wpZ hsel hQ hnd hg h3 rk _ a' w' (hcl.set hk) h2'' h''.2
theorem wp_region_z {id:Nat} {ops:Array Oper} {a:Act} {w:World} (S:World→Prop) (full:List (Nat×Nat)) (tr:Tz) (hm:P.follows .mixedOrders=true) (hB:orderZ ops full tr=true)
  (hQ: ∀d v c a w,Q (.panic c) (Act.put a d v) w→Q (.panic c) a w) (h:wpZ P ops Q S tr a w.drew):(Code.region id ops true).wp P Q a w:=by
 simp only [orderZ,Bool.and_eq_true,decide_eq_true_eq,List.all_eq_true] at hB
 obtain ⟨⟨⟨⟨⟨hsel,hlen⟩,hg⟩,hs⟩,hnd⟩,h3⟩:=hB
 refine wp_region_any hm (wpAny_of_anyX (S:=S) (k:=kindOf full) _ _ _ _ ?_)
 have:=anyX_of_wpZ hsel hQ hnd hg h3 tr (Array.replicate ops.size false) a w.drew ⟨by simp,fun j oj _ hl=>(by rw [getD_replicate_false] at hl;cases hl)⟩ hs h
 rw [hlen] at this
 exact this
theorem z_nil {a:Act} {w:World} (h:Q .normal a w):wpZ P ops Q S .nil a w:=h
theorem z_take {i:Nat} {r:Tz} {a:Act} {w:World} {o:Oper} (ho:ops[i]?=some o) (h: ∀K:Act→Prop,(∀a,wpZ P ops Q S r a w→K a)→ ∃v,(∀w,(execOp a.eval o).run P w= .ok (.value v) w)∧K (a.put o.dst v)):wpZ P ops Q S (.one i 1 r) a w:=by
 obtain ⟨v,hv,hn⟩:=h _ (fun _ h=>h)
 exact ⟨o,ho,v,hv,hn⟩
theorem z_show' {i:Nat} {r:Tz} {a:Act} {w:World} {o:Oper} (ho:ops[i]?=some o) (h: ∀K:Act→World→Prop,(∀a w,S w→wpZ P ops Q S r a w→K a w)→o.wp P a w K Q):wpZ P ops Q S (.one i 2 r) a w:=
 ⟨o,ho,h _ fun _ _ h1 h2=>⟨h1,h2⟩⟩
theorem z_skip {i:Nat} {r:Tz} {a:Act} {w:World} {o:Oper} (ho:ops[i]?=some o) {w':World} (hr:(execOp a.eval o).run P w= .ok .skip w') (h:wpZ P ops Q S r (a.put o.dst undef) w'):wpZ P ops Q S (.one i 3 r) a w:=by
 refine ⟨o,ho, .inl ?_⟩
 simp only [Oper.wp,hr,Oper.upon]
 exact h
theorem z_two {i j:Nat} {ri rj:Tz} {a:Act} {w:World} {o o':Oper} (ho:ops[i]?=some o) (ho':ops[j]?=some o') (h: ∀K:Act→World→Prop,(∀a w,S w→wpZ P ops Q S ri a w→K a w)→o.wp P a w K Q) (h': ∀K:Act→World→Prop,(∀a w,S w→wpZ P ops Q S rj a w→K a w)→o'.wp P a w K Q):wpZ P ops Q S (.two i j ri rj) a w:=
 ⟨⟨o,ho,h _ fun _ _ h1 h2=>⟨h1,h2⟩⟩,⟨o',ho',h' _ fun _ _ h1 h2=>⟨h1,h2⟩⟩⟩
theorem z_three {i j k:Nat} {ri rj rk:Tz} {a:Act} {w:World} {o o' o'':Oper} (ho:ops[i]?=some o) (ho':ops[j]?=some o') (ho'':ops[k]?=some o'') (h: ∀K:Act→World→Prop,(∀a w,S w→wpZ P ops Q S ri a w→K a w)→o.wp P a w K Q) (h': ∀K:Act→World→Prop,(∀a w,S w→wpZ P ops Q S rj a w→K a w)→o'.wp P a w K Q) (h'': ∀K:Act→World→Prop,(∀a w,S w→wpZ P ops Q S rk a w→K a w)→o''.wp P a w K Q):wpZ P ops Q S (.three i j k ri rj rk) a w:=
 ⟨⟨o,ho,h _ fun _ _ h1 h2=>⟨h1,h2⟩⟩,⟨o',ho',h' _ fun _ _ h1 h2=>⟨h1,h2⟩⟩,⟨o'',ho'',h'' _ fun _ _ h1 h2=>⟨h1,h2⟩⟩⟩
end
theorem wpList_execW {P:Program} {ops:Array Oper} {a:Act} {w:World} {rest:List Oper} {Q:Exit→Act→World→Prop} {o:Oper} {v:Value} {w':World} (hr:(execOp a.eval o).run P w= .ok (.value v) w') (hg:Region.wanted o (yielded ops a.tmps)=true) (h:wpList P ops Q rest (a.put o.dst v) w'):wpList P ops Q (o::rest) a w:=by
 refine BigFrame.wpList_want hg fun K hK=> ?_
 simp only [Oper.wp,hr,Oper.upon]
 exact hK _ _ h
section
variable {κ:Type} [DecidableEq κ] {P:Program} {K E T m clk:Nat} {enc:κ→Value} {w:World} {L:Ents κ} {ρ:Operand→Value} {dst:Option Tmp} {ty:TypeId} {pos:String} {after:Array Edge} {g:Option (Nat×Bool)}
end
section
variable {κ:Type} [DecidableEq κ] {P:Program} {K E T m clk:Nat} {enc:κ→Value} {w:World} {L:Ents κ} {ρ:Operand→Value} {dst:Option Tmp} {ty:TypeId} {pos:String} {after:Array Edge} {g:Option (Nat×Bool)} {z:Value}
end
theorem cell_mod {w w':World} {b o:Nat} {v:Value} {S:Nat→Prop} (h:w.cell? ⟨b,o,none⟩=some v) (hm:Mod S w w') (hS:¬ S b):w'.cell? ⟨b,o,none⟩=some v:=by
 have hlt:=World.block_lt_of_cell? w _ h
 rw [←h]
 unfold World.cell?
 simp only [hm.block b hlt hS]
theorem lies_mod {w w':World} {b o:Nat} {cs:Array Value} {S:Nat→Prop} (h:Lies w b o cs) (hm:Mod S w w') (hS:¬ S b):Lies w' b o cs:=fun j hj=>cell_mod (h j hj) hm hS
theorem frozen_mod {w w':World} {b o:Nat} {S:Nat→Prop} (hm:Mod S w w') (hb:b<w.heap.size) (hS:¬ S b):w'.frozen? ⟨b,o,none⟩=w.frozen? ⟨b,o,none⟩:=by
 unfold World.frozen?
 simp only [hm.block b hb hS]
theorem x_skipS {P:Program} {ops:Array Oper} {Q:Exit→Act→World→Prop} {S:World→Prop} {i:Nat} {r:List (Nat×Nat)} {a:Act} {w:World} {o:Oper} (ho:ops[i]?=some o) {w':World} (hr:(execOp a.eval o).run P w= .ok .skip w') (hS:S w') (h:wpX P ops Q S r (a.put o.dst undef) w'):wpX P ops Q S ((i,2)::r) a w:=by
 refine ⟨o,ho,?_⟩
 simp only [Oper.wp,hr,Oper.upon]
 exact ⟨hS,h⟩
theorem results_cellA {fn:Func} {t:Tmp} {T:TypeId} (h:fn.results= #[.cell t T]) (tmps:Array Value) {P:Program} {w:World} {b o:Nat} {cs:Array Value} (ht:tmps.getD t undef= .pointer (some ⟨b,o,none⟩)) (hT:AggT P T cs.size) (hL:Lies w b o cs):
  (results fn tmps).run P w= .ok (.agg cs) w:=by
 have hl:=run_loadA hT hL
 simp only [Instr.loadAt,Instr.sureAddr,Sem.run_bind,Sem.run_pure,Result.andThen_ok] at hl
 have ht':tmps[t]?.getD undef= .pointer (some ⟨b,o,none⟩):=by rw [←ht];simp
 simp [results,h,ht',asAddr,hl]
theorem results_cellT {fn:Func} {t u:Tmp} {T:TypeId} (h:fn.results= #[.cell t T, .tmp u]) (tmps:Array Value) {P:Program} {w:World} {b o:Nat} {cs:Array Value} (ht:tmps.getD t undef= .pointer (some ⟨b,o,none⟩)) (hT:AggT P T cs.size) (hL:Lies w b o cs):
  (results fn tmps).run P w= .ok (.tuple #[.agg cs,tmps.getD u undef]) w:=by
 have hl:=run_loadA hT hL
 simp only [Instr.loadAt,Instr.sureAddr,Sem.run_bind,Sem.run_pure,Result.andThen_ok] at hl
 have ht':tmps[t]?.getD undef= .pointer (some ⟨b,o,none⟩):=by rw [←ht];simp
 simp [results,h,ht',asAddr,hl]
section
variable {P:Program} {ops:Array Oper} {Q:Exit→Act→World→Prop} {S:World→Prop}
def stepsG (ops:Array Oper):List (Nat×Nat)→Array Bool→Bool
 | [],listed=>(Region.ready .any ops listed).isEmpty
 | (i,t)::r,listed=>
  (match ops[i]? with
   | some _=>decide (i<listed.size)&&
    (if t=0∨t=1 then Region.free .any ops listed i&&(Region.ready .any ops listed).contains i else decide (Region.ready .any ops listed= [i]))
   | none=>false)&&stepsG ops r (listed.setIfInBounds i true)
def orderG (ops:Array Oper) (ord:List (Nat×Nat)):Bool:=
 Region.noSelect ops&&decide (ord.length=ops.size)&&gatesB ops ord&&stepsG ops ord (Array.replicate ops.size false)&&decide (ord.map (·.1)).Nodup&&ord.all fun x=>decide (x.2≤3)
def wpG (P:Program) (ops:Array Oper) (Q:Exit→Act→World→Prop) (S:World→Prop):List (Nat×Nat)→Act→World→Prop
 | [],a,w=>Q .normal a w
 | (i,t)::r,a,w=> ∃o,ops[i]?=some o∧
  ((Region.wanted o (yielded ops a.tmps)=false∧(t=2→S w)∧wpG P ops Q S r (a.put o.dst undef) w)∨
   (Region.wanted o (yielded ops a.tmps)=true∧
   match t with
   | 0=>S w∧ ∃v,(∀w,S w→(execOp a.eval o).run P w= .ok (.value v) w)∧wpG P ops Q S r (a.put o.dst v) w
   | 1=> ∃v,(∀w,(execOp a.eval o).run P w= .ok (.value v) w)∧wpG P ops Q S r (a.put o.dst v) w
   | 2=>o.wp P a w (fun a' w'=>S w'∧wpG P ops Q S r a' w') Q
   | _=>o.wp P a w (wpG P ops Q S r) Q∨(o.asks P a w∧LetsOut Q)))
def kd:Nat→Nat
 | 0=>0
 | 1=>0
 | 2=>1
 | _=>2
theorem kd_three {t:Nat} (ht:¬ (t=0∨t=1)):¬ kd t=0∧(kd t=1→t=2):=by
 rcases t with _|_|_|t
 ·exact absurd (.inl rfl) ht
 ·exact absurd (.inr rfl) ht
 ·exact ⟨by decide,fun _=>rfl⟩
 ·exact ⟨(fun (h:2=0)=>absurd h (by decide)),(fun (h:2=1)=>absurd h (by decide))⟩
theorem anyX_of_wpG {full:List (Nat×Nat)} (hsel:Region.noSelect ops=true) (hQ: ∀d v c a w,Q (.panic c) (Act.put a d v) w→Q (.panic c) a w) (hnd:(full.map (·.1)).Nodup) (hg:gatesB ops full=true) (h3: ∀x∈full,x.2≤3):
  ∀(ord:List (Nat×Nat)) (listed:Array Bool) (a:Act) (w:World),(∀x∈ord,x∈full)→Cl ops listed→stepsG ops ord listed=true→wpG P ops Q S ord a w→anyX P ops Q S (kindOf full) ord.length listed a w
 | [],listed,a,w,_,_,hB,h=>⟨by simpa [stepsG] using hB,h⟩
 | (i,t)::r,listed,a,w,hsub,hcl,hB,h=>by
  simp only [stepsG,Bool.and_eq_true] at hB
  obtain ⟨h1,h2⟩:=hB
  obtain ⟨o,ho,h⟩:=h
  simp only [ho,Bool.and_eq_true,decide_eq_true_eq] at h1
  obtain ⟨hlt,h1⟩:=h1
  have hmem:(i,t)∈full:=hsub _ (by simp)
  have hsub': ∀x∈r,x∈full:=fun x hx=>hsub x (by simp [hx])
  have hk:kindOf full i=kd t:=by
   unfold kindOf
   rw [kindOf_mem hnd hmem]
   match t with
   | 0=>rfl
   | 1=>rfl
   | 2=>rfl
   | t+3=>rfl
  rcases h with ⟨hw,hS2,hn⟩|⟨hw,h⟩
  ·by_cases ht:t=0∨t=1
   ·have hk0:kindOf full i=0:=by rcases ht with rfl|rfl<;>exact hk
    rw [if_pos ht] at h1
    simp only [Bool.and_eq_true] at h1
    have hr:i∈Region.ready .any ops listed:=by simpa using h1.2
    exact anyX_take ho hk0 (Region.noSelect_spec hsel) hQ r.length listed a w (Region.free_spec ho h1.1) hr (.inr ⟨hw,rfl⟩) (anyX_of_wpG hsel hQ hnd hg h3 r _ _ _ hsub' (hcl.set hr) h2 hn)
   ·rw [if_neg ht] at h1
    have hr:Region.ready .any ops listed= [i]:=by simpa using h1
    refine ⟨fun h0=>absurd (hr ▸ h0) (by simp),fun j hj=> ?_⟩
    obtain rfl:j=i:=by rw [hr] at hj;simpa using hj
    unfold wpOp
    simp only [ho,hw]
    have hn':=anyX_of_wpG hsel hQ hnd hg h3 r _ _ _ hsub' (hcl.set hj) h2 hn
    refine ⟨⟨fun _=>rfl,fun h0=> ?_⟩,hn'⟩
    rw [hk] at h0
    exact hS2 ((kd_three ht).2 h0)
  ·rcases t with _|_|_|t
   ·obtain ⟨hS,v,hv,hn⟩:=h
    simp only [true_or,if_true,Bool.and_eq_true] at h1
    have hr:i∈Region.ready .any ops listed:=by simpa using h1.2
    exact anyX_read ho hk (kindOf_three full) (Region.noSelect_spec hsel) hQ (fun listed' hun hcl'=>gates_spec hnd hg hmem h3 listed' (getD_both hun) hcl'.closed) r.length listed a w hcl (Region.free_spec ho h1.1) hr
     (.inl ⟨hw,hv⟩) hS (anyX_of_wpG hsel hQ hnd hg h3 r _ _ _ hsub' (hcl.set hr) h2 hn)
   ·obtain ⟨v,hv,hn⟩:=h
    simp only [Nat.zero_add,or_true,if_true,Bool.and_eq_true] at h1
    have hr:i∈Region.ready .any ops listed:=by simpa using h1.2
    exact anyX_take ho hk (Region.noSelect_spec hsel) hQ r.length listed a w (Region.free_spec ho h1.1) hr (.inl ⟨hw,hv⟩) (anyX_of_wpG hsel hQ hnd hg h3 r _ _ _ hsub' (hcl.set hr) h2 hn)
   ·have hr:Region.ready .any ops listed= [i]:=by simpa using h1
    refine ⟨fun h0=>absurd (hr ▸ h0) (by simp),fun j hj=> ?_⟩
    obtain rfl:j=i:=by rw [hr] at hj;simpa using hj
    unfold wpOp
    simp only [ho,hw,if_true]
    refine .inl (Oper.wp_mono (fun a' w' h'=>⟨⟨fun h0=> ?_,fun _=>h'.1⟩,anyX_of_wpG hsel hQ hnd hg h3 r _ a' w' hsub' (hcl.set hj) h2 h'.2⟩) h)
    rw [hk] at h0;cases h0
   ·have hr:Region.ready .any ops listed= [i]:=by simpa using h1
    refine ⟨fun h0=>absurd (hr ▸ h0) (by simp),fun j hj=> ?_⟩
    obtain rfl:j=i:=by rw [hr] at hj;simpa using hj
    unfold wpOp
    simp only [ho,hw,if_true]
    refine h.imp (Oper.wp_mono (fun a' w' h'=>⟨⟨fun h0=> ?_,fun h0=> ?_⟩,anyX_of_wpG hsel hQ hnd hg h3 r _ a' w' hsub' (hcl.set hj) h2 h'⟩)) id
    ·rw [hk] at h0;cases h0
    ·rw [hk] at h0;cases h0
theorem wp_region_g {id:Nat} {ops:Array Oper} {a:Act} {w:World} (S:World→Prop) (ord:List (Nat×Nat)) (hm:P.follows .mixedOrders=true) (hB:orderG ops ord=true)
  (hQ: ∀d v c a w,Q (.panic c) (Act.put a d v) w→Q (.panic c) a w) (h:wpG P ops Q S ord a w.drew):(Code.region id ops true).wp P Q a w:=by
 simp only [orderG,Bool.and_eq_true,decide_eq_true_eq,List.all_eq_true] at hB
 obtain ⟨⟨⟨⟨⟨hsel,hlen⟩,hg⟩,hs⟩,hnd⟩,h3⟩:=hB
 refine wp_region_any hm (wpAny_of_anyX (S:=S) (k:=kindOf ord) _ _ _ _ ?_)
 have:=anyX_of_wpG hsel hQ hnd hg h3 ord (Array.replicate ops.size false) a w.drew (fun _ h=>h) ⟨by simp,fun j oj _ hl=>(by rw [getD_replicate_false] at hl;cases hl)⟩ hs h
 rw [hlen] at this
 exact this
theorem g_nil {a:Act} {w:World} (h:Q .normal a w):wpG P ops Q S [] a w:=h
theorem g_off {i t:Nat} {r:List (Nat×Nat)} {a:Act} {w:World} {o:Oper} (ho:ops[i]?=some o) (hw:Region.wanted o (yielded ops a.tmps)=false) (hS:t=2→S w) (h:wpG P ops Q S r (a.put o.dst undef) w):wpG P ops Q S ((i,t)::r) a w:=
 ⟨o,ho, .inl ⟨hw,hS,h⟩⟩
theorem g_read {i:Nat} {r:List (Nat×Nat)} {a:Act} {w:World} {o:Oper} (ho:ops[i]?=some o) (hw:Region.wanted o (yielded ops a.tmps)=true) (hS:S w) {v:Value} (hv: ∀w,S w→(execOp a.eval o).run P w= .ok (.value v) w) (h:wpG P ops Q S r (a.put o.dst v) w):wpG P ops Q S ((i,0)::r) a w:=
 ⟨o,ho, .inr ⟨hw,hS,v,hv,h⟩⟩
theorem g_take {i:Nat} {r:List (Nat×Nat)} {a:Act} {w:World} {o:Oper} (ho:ops[i]?=some o) (hw:Region.wanted o (yielded ops a.tmps)=true) (h: ∀K:Act→Prop,(∀a,wpG P ops Q S r a w→K a)→ ∃v,(∀w,(execOp a.eval o).run P w= .ok (.value v) w)∧K (a.put o.dst v)):wpG P ops Q S ((i,1)::r) a w:=by
 obtain ⟨v,hv,hn⟩:=h _ (fun _ h=>h)
 exact ⟨o,ho, .inr ⟨hw,v,hv,hn⟩⟩
end
section
variable {P:Program} {ops:Array Oper} {Q:Exit→Act→World→Prop} {S:World→Prop}
theorem g_offK {i t:Nat} {r:List (Nat×Nat)} {a:Act} {w:World} {o:Oper} (ho:ops[i]?=some o) (hw:Region.wanted o (yielded ops a.tmps)=false) (hS:t=2→S w) (h: ∀K:Act→Prop,(∀a,wpG P ops Q S r a w→K a)→K (a.put o.dst undef)):wpG P ops Q S ((i,t)::r) a w:=
 g_off ho hw hS (h _ fun _ h=>h)
end
end Go.Tn
namespace Go.Tn.Bits
def byt (c:Nat→Nat):Nat→Nat
 | 0=>0
 | m+1=>byt c m*256+c m
theorem wrap_u64 (x:Nat) (h:x<18446744073709551616):IntKind.u64.wrap (x:Int)=(x:Int):=by
 simp [IntKind.wrap,IntKind.bits,IntKind.signed]
 omega
theorem bits_and (x y:Nat) (hx:x<18446744073709551616) (hy:y<18446744073709551616):bits .and .u64 (x:Int) (y:Int)=((x &&& y:Nat):Int):=by
 have h:x &&& y<18446744073709551616:=Nat.lt_of_le_of_lt Nat.and_le_left hx
 unfold Go.bits
 simp only [BitVec.ofInt_natCast]
 rw [BitVec.toNat_and,BitVec.toNat_ofNat,BitVec.toNat_ofNat]
 rw [Nat.mod_eq_of_lt (show x<2 ^ IntKind.u64.bits from hx),Nat.mod_eq_of_lt (show y<2 ^ IntKind.u64.bits from hy)]
 exact wrap_u64 _ h
theorem bits_or (x y:Nat) (hx:x<18446744073709551616) (hy:y<18446744073709551616):bits .or .u64 (x:Int) (y:Int)=((x ||| y:Nat):Int):=by
 have h:x ||| y<2 ^ 64:=Nat.or_lt_two_pow hx hy
 unfold Go.bits
 simp only [BitVec.ofInt_natCast]
 rw [BitVec.toNat_or,BitVec.toNat_ofNat,BitVec.toNat_ofNat]
 rw [Nat.mod_eq_of_lt (show x<2 ^ IntKind.u64.bits from hx),Nat.mod_eq_of_lt (show y<2 ^ IntKind.u64.bits from hy)]
 exact wrap_u64 _ h
theorem bits_xor (x y:Nat) (hx:x<18446744073709551616) (hy:y<18446744073709551616):bits .xor .u64 (x:Int) (y:Int)=((x ^^^ y:Nat):Int):=by
 have h:x ^^^ y<2 ^ 64:=Nat.xor_lt_two_pow hx hy
 unfold Go.bits
 simp only [BitVec.ofInt_natCast]
 rw [BitVec.toNat_xor,BitVec.toNat_ofNat,BitVec.toNat_ofNat]
 rw [Nat.mod_eq_of_lt (show x<2 ^ IntKind.u64.bits from hx),Nat.mod_eq_of_lt (show y<2 ^ IntKind.u64.bits from hy)]
 exact wrap_u64 _ h
end Go.Tn.Bits
namespace Go.Tn
open Go.RowKit
variable {P:Program}
def numsArr (k:IntKind) (n:Nat) (f:Nat→Int):Array Value:=((List.range n).map fun i=>Value.int k (f i)).toArray
theorem numsArr_get (k:IntKind) {n:Nat} (f:Nat→Int) {i:Nat} (h:i<n):(numsArr k n f)[i]?=some (.int k (f i)):=by simp [numsArr,h]
theorem run_equalIn_nums (w:World) (d:Nat) {t e:TypeId} {n:Nat} {k:IntKind} (ht:P.underlying t=some (.array n e)) (he:P.underlying e=some (.int k)) (hsz: ∀w,(sizeOf e).run P w= .ok 1 w) (f g:Nat→Int):
  (Op.equalIn (d+2) t (.agg (numsArr k n f)) (.agg (numsArr k n g))).run P w= .ok ((List.range n).all fun i=>f i==g i) w:=by
 rw [List.range_eq_range',Op.equalIn]
 simp only [Sem.run_bind,run_underlying ht,Result.andThen_ok,hsz,Std.Legacy.Range.forIn_eq_forIn_range',Std.Legacy.Range.size,Nat.sub_zero,Nat.add_sub_cancel,Nat.div_one]
 have hl: ∀i∈List.range' 0 n 1,i<n:=fun i hi=>by simpa using (List.mem_range'_1.1 hi).2
 generalize List.range' 0 n 1=l at hl ⊢
 induction l with
 | nil=>simp
 | cons i l ih=>
  have hi:i<n:=hl i (by simp)
  have px:(part e (numsArr k n f) (i*1)).run P w= .ok (.int k (f i)) w:=by
   have:=numsArr_get k f hi
   simp [part,isAgg,run_underlying he,this]
  have py:(part e (numsArr k n g) (i*1)).run P w= .ok (.int k (g i)) w:=by
   have:=numsArr_get k g hi
   simp [part,isAgg,run_underlying he,this]
  have pe:(Op.equalIn (d+1) e (.int k (f i)) (.int k (g i))).run P w= .ok (f i==g i) w:=by
   rw [run_equalIn_int w d e k k _ _ he]
  simp only [List.forIn_cons,Sem.run_bind,px,py,pe,Result.andThen_ok,List.all_cons]
  cases hb:(f i==g i)
  ·simp
  ·simp only [Bool.not_true,Bool.false_eq_true,if_false,Sem.run_pure,Result.andThen_ok,Bool.true_and]
   exact ih fun j hj=>hl j (by simp [hj])
theorem exec_neqA {ρ:Operand→Value} {dst:Option Tmp} {ty:TypeId} {pos:String} {after:Array Edge} {g:Option (Nat×Bool)} {t e yt:TypeId} {n:Nat} {k:IntKind} {f h:Nat→Int} {x y:Operand} (ht:P.underlying t=some (.array n e)) (he:P.underlying e=some (.int k)) (hsz: ∀w,(sizeOf e).run P w= .ok 1 w) (hm:P.eqGuardType P.depth t=false) (hx:ρ x= .agg (numsArr k n f)) (hy:ρ y= .agg (numsArr k n h)) {q:Bool} (hq:((List.range n).all fun i=>f i==h i)=q) (w:World):
  (execOp ρ ⟨dst, .binOp .neq t x y yt,ty,pos,after,g⟩).run P w= .ok (.value (.bool (!q))) w:=by
 simp only [execOp,hx,hy,Sem.run_bind,run_eqGuard_agg w .neq t x y _ _ hm,Result.andThen_ok,run_neq_struct,run_equalIn_nums w 9998 ht he hsz f h,hq,Sem.run_pure]
end Go.Tn
namespace Go.Tn.Bits
open Go.RowKit
theorem bits_andNot (x y:Nat) (hx:x<18446744073709551616) (hy:y<18446744073709551616):bits .andNot .u64 (x:Int) (y:Int)=((x &&& (2 ^ 64-(y+1)):Nat):Int):=by
 have h:x &&& (2 ^ 64-(y+1))<18446744073709551616:=Nat.lt_of_le_of_lt Nat.and_le_left hx
 unfold Go.bits
 simp only [BitVec.ofInt_natCast]
 rw [BitVec.toNat_and,BitVec.toNat_not,BitVec.toNat_ofNat,BitVec.toNat_ofNat]
 rw [Nat.mod_eq_of_lt (show x<2 ^ IntKind.u64.bits from hx),Nat.mod_eq_of_lt (show y<2 ^ IntKind.u64.bits from hy)]
 have e:2 ^ IntKind.u64.bits-1-y=2 ^ 64-(y+1):=by
  show 18446744073709551616-1-y=18446744073709551616-(y+1)
  omega
 rw [e]
 exact wrap_u64 _ h
theorem num_andNot (f:Nat→Bool) {i:Nat} (h:i<64):num f 64 &&& (2 ^ 64-(2 ^ (63-i)+1))=num (setB f i false) 64:=by
 apply Nat.eq_of_testBit_eq
 intro j
 have hp:2 ^ (63-i)<2 ^ 64:=Nat.pow_lt_pow_right (by decide) (by omega)
 rw [Nat.testBit_and,testBit_num,testBit_num,Nat.testBit_two_pow_sub_succ hp,Nat.testBit_two_pow]
 by_cases hj:j<64
 ·by_cases he:63-i=j
  ·have:64-1-j=i:=by omega
   simp [hj,he,this,setB]
  ·have:64-1-j≠i:=by omega
   simp [hj,he,setB,this]
 ·simp [hj]
end Go.Tn.Bits
