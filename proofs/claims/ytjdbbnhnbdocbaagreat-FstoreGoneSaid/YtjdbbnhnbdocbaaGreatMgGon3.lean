import Derived.Test.YtjdbbnhnbdocbaaGreatMgGon2
import Derived.Maps.AppendAt
import Derived.OrdersHeld
namespace Go.Tn
open Go.RowKit
section
variable {P:Program} {ops:Array Oper} {rest:List Oper} {a:Act} {w:World}
theorem not_ready {md:Region.Mode} {listed:Array Bool} {t i:Nat} (hw:Region.waitsFor md ops t i=true) (hi:listed.getD i false=false):t∉Region.ready md ops listed:=by
 intro hr
 obtain ⟨_,ot,hot,hall⟩:=mem_ready.1 hr
 obtain ⟨oj,hoj,e,he,hb,hon⟩:=Region.waitsFor_spec hw
 rw [hot] at hoj
 cases hoj
 have:=hall e he hb
 rw [hon,hi] at this
 cases this
theorem wpList_exec {Q:Exit→Act→World→Prop} {o:Oper} (hg:o.guard=none) {v:Value} {w':World} (hr:(execOp a.eval o).run P w= .ok (.value v) w') (h:wpList P ops Q rest (a.put o.dst v) w'):wpList P ops Q (o::rest) a w:=by
 refine wpList_plain hg fun K hK=> ?_
 simp only [Oper.wp,hr,Oper.upon]
 exact hK _ _ h
theorem wpList_execSkip {Q:Exit→Act→World→Prop} {o:Oper} (hg:o.guard=none) {w':World} (hr:(execOp a.eval o).run P w= .ok .skip w') (h:wpList P ops Q rest (a.put o.dst undef) w'):wpList P ops Q (o::rest) a w:=by
 refine wpList_plain hg fun K hK=> ?_
 simp only [Oper.wp,hr,Oper.upon]
 exact hK _ _ h
section
variable {κ:Type} [DecidableEq κ] {K:TypeId} {enc:κ→Value} {T E m clk:Nat} {L:Ents κ} {z:Value} {ρ:Operand→Value} {dst:Option Tmp} {ty:TypeId} {pos:String} {after:Array Edge} {g:Option (Nat×Bool)}
theorem exec_lookup (hK:KeyOK P K enc) (hT:P.underlying T=some (.map K E)) (hz: ∀w,(zeroValue E).run P w= .ok z w) (hb:w.heap[m]?=some (.map (ents enc L) clk)) {x i:Operand} (hx:ρ x= .map (some m)) (k:κ) (hi:ρ i=enc k):
  (execOp ρ ⟨dst, .lookup T x i false,ty,pos,after,g⟩).run P w= .ok (.value (getD k L z)) w:=by
 simp only [execOp,hx,hi,Sem.run_bind,run_lookup hK hT hz hb,Result.andThen_ok,Sem.run_pure]
theorem exec_lookup_ok (hK:KeyOK P K enc) (hT:P.underlying T=some (.map K E)) (hz: ∀w,(zeroValue E).run P w= .ok z w) (hb:w.heap[m]?=some (.map (ents enc L) clk)) {x i:Operand} (hx:ρ x= .map (some m)) (k:κ) (hi:ρ i=enc k):
  (execOp ρ ⟨dst, .lookup T x i true,ty,pos,after,g⟩).run P w= .ok (.value (.tuple #[getD k L z, .bool (get k L).isSome])) w:=by
 simp only [execOp,hx,hi,Sem.run_bind,run_lookup_ok hK hT hz hb,Result.andThen_ok,Sem.run_pure]
theorem exec_mapUpdate (hK:KeyOK P K enc) (hT:P.underlying T=some (.map K E)) (hb:w.heap[m]?=some (.map (ents enc L) clk)) {x i y:Operand} (hx:ρ x= .map (some m)) (k:κ) (hi:ρ i=enc k):
  (execOp ρ ⟨dst, .mapUpdate T x i y,ty,pos,after,g⟩).run P w= .ok .skip (setObjW w m (.map (ents enc (upd k (ρ y) L clk)) (updClk k L clk))):=by
 simp only [execOp,hx,hi,Sem.run_bind,run_mapUpdate hK hT hb,Result.andThen_ok,Sem.run_pure]
theorem exec_delete {tk:TypeId} (hK:KeyOK P K enc) (hT:P.underlying T=some (.map K E)) (hb:w.heap[m]?=some (.map (ents enc L) clk)) {x i:Operand} (hx:ρ x= .map (some m)) (k:κ) (hi:ρ i=enc k):
  (execOp ρ ⟨dst, .call {callee:= .builtin .delete,args:= #[x,i],argTypes:= #[T,tk]},ty,pos,after,g⟩).run P w= .ok (.value (.tuple #[])) (setObjW w m (.map (ents enc (del k L)) clk)):=by
 simp only [execOp,resolve,invoke,builtin,Sem.run_bind,Sem.run_pure,Result.andThen_ok,List.map_toArray,List.map_cons,List.map_nil,hx,hi,run_delete hK hT hb]
omit [DecidableEq κ] in
end
end
variable {P:Program} {α:Type} {en:α→List Value} {k:Nat} {e t:TypeId}
theorem get_flatMap (hen: ∀x,(en x).length=k): ∀(xs:List α) (i j:Nat) (x:α),xs[i]?=some x→j<k→(xs.flatMap en)[i*k+j]?=(en x)[j]?
 | [],i,j,x,h,_=>by simp at h
 | y::ys,0,j,x,h,hj=>by
  have:y=x:=by simpa using h
  subst this
  rw [List.flatMap_cons,Nat.zero_mul,Nat.zero_add,List.getElem?_append_left (by rw [hen];exact hj)]
 | y::ys,i+1,j,x,h,hj=>by
  have hx:ys[i]?=some x:=by simpa using h
  have e1:(i+1)*k+j=(en y).length+(i*k+j):=by rw [hen,Nat.add_mul];omega
  rw [List.flatMap_cons,e1,List.getElem?_append_right (Nat.le_add_right _ _),Nat.add_sub_cancel_left]
  exact get_flatMap hen ys i j x hx hj
theorem len_flatMap (hen: ∀x,(en x).length=k): ∀xs:List α,(xs.flatMap en).length=xs.length*k
 | []=>by simp
 | y::ys=>by rw [List.flatMap_cons,List.length_append,hen,len_flatMap hen ys,List.length_cons,Nat.add_mul];omega
def LSl (en:α→List Value) (k:Nat) (w:World) (v:Value) (xs:List α):Prop:=
 ∃ao cap,v= .slice ao xs.length cap∧xs.length≤cap∧cap≤maxLen∧(0<xs.length→ ∃b off,ao=some ⟨b,off,none⟩∧b<w.heap.size∧ ∀(i:Nat) (x:α),xs[i]?=some x→Lies w b (off+i*k) (en x).toArray)
theorem Lies.below' {w w':World} {b o B:Nat} {cs:Array Value} (h:Lies w b o cs) (hb:Below B w w') (hB:b<B):Lies w' b o cs:=fun j hj=>(hb.cell (p:=⟨b,o+j,none⟩) hB).trans (h j hj)
theorem LSl.nil (w:World):LSl en k w (.slice none 0 0) []:=⟨none,0,rfl,Nat.le_refl _,Nat.zero_le _,fun h=>absurd h (Nat.lt_irrefl _)⟩
theorem LSl.below {w w':World} {v:Value} {xs:List α} (h:LSl en k w v xs) (hb:Below w.heap.size w w'):LSl en k w' v xs:=by
 obtain ⟨ao,cap,rfl,h1,h2,h3⟩:=h
 refine ⟨ao,cap,rfl,h1,h2,fun h0=> ?_⟩
 obtain ⟨b,off,rfl,hlt,hc⟩:=h3 h0
 exact ⟨b,off,rfl,Nat.lt_of_lt_of_le hlt hb.size,fun i x hi=>(hc i x hi).below' hb hlt⟩
theorem LSl.lit {w:World} {x:α} (hen: ∀x,(en x).length=k) (T:TypeId):LSl en k (w.alloc (.cells (en x).toArray T)) (.slice (some ⟨w.heap.size,0,none⟩) 1 1) [x]:=by
 refine ⟨_,1,rfl,by simp,by unfold maxLen;decide,fun _=>⟨w.heap.size,0,rfl,by simp,fun i y hi=> ?_⟩⟩
 cases i with
 | zero=>
  have:x=y:=by simpa using hi
  subst this
  rw [Nat.zero_mul]
  exact lies_of heap_alloc_at
 | succ i=>simp at hi
theorem LSl.at_ {w:World} {v:Value} {xs:List α} (h:LSl en k w v xs) {i:Nat} {x:α} (hi:xs[i]?=some x): ∃b off cap,v= .slice (some ⟨b,off,none⟩) xs.length cap∧b<w.heap.size∧Lies w b (off+i*k) (en x).toArray:=by
 obtain ⟨ao,cap,rfl,h1,h2,h3⟩:=h
 have hlt:=(List.getElem?_eq_some_iff.1 hi).1
 obtain ⟨b,off,rfl,hlt2,hc⟩:=h3 (by omega)
 exact ⟨b,off,cap,rfl,hlt2,hc i x hi⟩
structure LOut (en:α→List Value) (k:Nat) (e:TypeId) (B:Nat) (w:World) (v:Value) (xs:List α):Prop where
 own:w.ownsRow 0 e k v xs.length (xs.flatMap en)
 lo: ∀r,v.ownBlock=some r→B≤r
 le:B≤w.heap.size
theorem LOut.nil {B:Nat} {w:World} (h:B≤w.heap.size):LOut en k e B w (.slice none 0 0) ([]:List α):=
 ⟨⟨by simp, .inl ⟨rfl,rfl⟩⟩,(fun r hr=>by cases hr),h⟩
theorem LOut.kept {B:Nat} {w w':World} {v:Value} {xs:List α} (h:LOut en k e B w v xs) (hs:w.heap.size≤w'.heap.size) (hb: ∀r,v.ownBlock=some r→w'.heap[r]?=w.heap[r]?):LOut en k e B w' v xs:=by
 refine ⟨⟨h.own.1,?_⟩,h.lo,Nat.le_trans h.le hs⟩
 rcases h.own.2 with h2|⟨g,cap,cur,hv,h0,hg,r⟩
 ·exact .inl h2
 ·exact .inr ⟨g,cap,cur,hv,h0,(hb g (by rw [hv];rfl)).trans hg,r⟩
theorem LOut.lt {B:Nat} {w:World} {v:Value} {xs:List α} (h:LOut en k e B w v xs) {r:Nat} (hr:v.ownBlock=some r):r<w.heap.size:=by
 rcases h.own.2 with ⟨hv,_⟩|⟨g,cap,cur,hv,_,hg,_⟩
 ·rw [hv] at hr;cases hr
 ·rw [hv] at hr;cases hr;exact lt_of_block hg
theorem LOut.below {B:Nat} {w w':World} {v:Value} {xs:List α} (h:LOut en k e B w v xs) (hb:Below w.heap.size w w'):LOut en k e B w' v xs:=
 h.kept hb.size fun _ hr=>hb.block _ (h.lt hr)
theorem LOut.mono {B B':Nat} {w:World} {v:Value} {xs:List α} (h:LOut en k e B w v xs) (hB:B'≤B):LOut en k e B' w v xs:=
 ⟨h.own,fun r hr=>Nat.le_trans hB (h.lo r hr),Nat.le_trans hB h.le⟩
theorem LOut.sl {B:Nat} {w:World} {v:Value} {xs:List α} (hen: ∀x,(en x).length=k) (h:LOut en k e B w v xs):LSl en k w v xs:=by
 rcases h.own.2 with ⟨hv,h0⟩|⟨g,cap,cur,hv,_,hg,hn,hm,hs,ht⟩
 ·have:xs= []:=List.eq_nil_of_length_eq_zero h0
  subst this
  subst hv
  exact LSl.nil w
 ·refine ⟨_,cap,hv,hn,hm,fun _=>⟨g,0,rfl,lt_of_block hg,fun i x hi j hj=> ?_⟩⟩
  have hj':j<k:=by simpa [hen] using hj
  refine cell_of hg ?_
  have h1:=get_flatMap hen xs i j x hi hj'
  rw [←ht,List.getElem?_take] at h1
  split at h1
  ·rw [Nat.zero_add]
   rw [Array.getElem?_toList] at h1
   rw [h1]
   simp
  ·rw [List.getElem?_eq_getElem (by rw [hen];exact hj')] at h1
   cases h1
structure ElT (P:Program) (t e:TypeId) (k:Nat) (en:α→List Value):Prop where
 sl:P.underlying t=some (.slice e)
 info:(P.info? e).map (fun i=>(i.zero.map (fun z=>z.cells.size),i.size,decide (i.bytes≤1000)))=some (some k,k,true)
 pos:0<k
 len: ∀x,(en x).length=k
 one: ∀x, ∀u∈en x,u.oneCell'=true
theorem run_appendMX (E:ElT P t e k en) {ty:TypeId} {B:Nat} {w:World} {v u:Value} {xs ys:List α} (h:LOut en k e B w v xs) (hu:LSl en k w u ys) (hsz:xs.length+ys.length≤10000000000):
  ∃v' w',(Builtin.append_ #[t,t] ty #[v,u]).run P w= .ok v' w'∧LOut en k e B w' v' (xs++ys)∧w.grownBy w' v.ownBlock∧(v'.ownBlock=v.ownBlock∨v'.ownBlock=some w.heap.size):=by
 obtain ⟨i,hi,hI⟩: ∃i,P.info? e=some i∧(i.zero.map (fun z=>z.cells.size),i.size,decide (i.bytes≤1000))=(some k,k,true):=by
  have:=E.info
  cases hq:P.info? e with
  | none=>simp [hq] at this
  | some i=>exact ⟨i,rfl,by simpa [hq] using this⟩
 obtain ⟨hz0,hI⟩:=Prod.mk.inj hI
 obtain ⟨hsize,hby⟩:=Prod.mk.inj hI
 obtain ⟨z,hz,hzs⟩: ∃z,i.zero=some z∧z.cells.size=k:=by
  cases hq:i.zero with
  | none=>simp [hq] at hz0
  | some z=>exact ⟨z,rfl,by simpa [hq] using hz0⟩
 have hby':i.bytes≤1000:=of_decide_eq_true hby
 obtain ⟨ao,cap,rfl,hu1,hu2,hu3⟩:=hu
 have go: ∀a:Addr,ao=some a→(∀j u,(ys.flatMap en)[j]?=some u→w.cell? (a.add j)=some u)→ ∃v' w',(Builtin.append_ #[t,t] ty #[v, .slice ao ys.length cap]).run P w= .ok v' w'∧LOut en k e B w' v' (xs++ys)∧w.grownBy w' v.ownBlock∧(v'.ownBlock=v.ownBlock∨v'.ownBlock=some w.heap.size):=fun a ha hc=>by
  subst ha
  obtain ⟨v',w',h1,h2,h3,_,h5⟩:=run_append_own_at (P:=P) w 0 t ty e i z k i.bytes E.sl hi hz hsize rfl hzs E.pos v xs.length (xs.flatMap en) h.own a ys.length cap (ys.flatMap en) (len_flatMap E.len ys) hc (fun u hu=>by
   obtain ⟨x,_,hx⟩:=List.mem_flatMap.1 hu
   exact E.one x u hx) (by unfold maxLen;omega) (by
    have:(xs.length+ys.length)*i.bytes≤10000000000*1000:=Nat.mul_le_mul hsz hby'
    omega) (Nat.zero_le _)
  refine ⟨v',w',h1,⟨by rw [List.length_append,List.flatMap_append];exact h2,fun r hr=> ?_,Nat.le_trans h.le h3.size⟩,h3,h5⟩
  rcases h5 with h5|h5
  ·exact h.lo r (h5 ▸ hr)
  ·rw [h5] at hr
   cases hr
   exact h.le
 by_cases hy:0<ys.length
 ·obtain ⟨b,off,rfl,hlt,hc⟩:=hu3 hy
  refine go _ rfl fun j u hj=> ?_
  have hjl:=(List.getElem?_eq_some_iff.1 hj).1
  rw [len_flatMap E.len] at hjl
  have hk:=E.pos
  have hdm:j/k*k+j %k=j:=by rw [Nat.mul_comm];exact Nat.div_add_mod j k
  have hjk:j/k<ys.length:=Nat.div_lt_of_lt_mul (by rw [Nat.mul_comm];exact hjl)
  have hx:ys[j/k]?=some ys[j/k]:=List.getElem?_eq_getElem hjk
  have hm:j %k<k:=Nat.mod_lt _ hk
  have h1:=get_flatMap E.len ys (j/k) (j %k) _ hx hm
  rw [hdm,hj] at h1
  have h2:=hc _ _ hx (j %k) (by simpa [E.len] using hm)
  rw [addr_add]
  rw [show off+j=off+j/k*k+j %k by omega,h2]
  have h3:(en ys[j/k])[j %k]?=some ((en ys[j/k])[j %k]'(by rw [E.len];exact hm)):=List.getElem?_eq_getElem _
  rw [h3] at h1
  rw [h1]
  simp
 ·have hy0:ys= []:=List.eq_nil_of_length_eq_zero (by omega)
  subst hy0
  cases ao with
  | some a=>exact go a rfl (by simp)
  | none=>
   refine ⟨v,w,?_,by simpa using h,World.grownBy.refl _ _, .inl rfl⟩
   rcases h.own.2 with ⟨hv,h0⟩|⟨g,cap',cur,hv,_,hg,hn,hm,hs,ht⟩
   ·have:xs= []:=List.eq_nil_of_length_eq_zero h0
    subst this
    subst hv
    simp [Builtin.append_,run_underlying E.sl,sizeOf,typeInfo,hi,Builtin.lenOf,Builtin.firstCells]
   ·subst hv
    simp [Builtin.append_,run_underlying E.sl,sizeOf,typeInfo,hi,Builtin.lenOf,Builtin.firstCells,hn,storeCells]
theorem run_appendM (E:ElT P t e k en) {ty:TypeId} {B:Nat} {w:World} {v u:Value} {xs ys:List α} (h:LOut en k e B w v xs) (hu:LSl en k w u ys) (hsz:xs.length+ys.length≤100000):
  ∃v' w',(Builtin.append_ #[t,t] ty #[v,u]).run P w= .ok v' w'∧LOut en k e B w' v' (xs++ys)∧w.grownBy w' v.ownBlock∧(v'.ownBlock=v.ownBlock∨v'.ownBlock=some w.heap.size):=
 run_appendMX E h hu (by omega)
theorem wpList_appendMX {ops:Array Oper} {rest:List Oper} {a:Act} {Q:Exit→Act→World→Prop} (E:ElT P t e k en) {B:Nat} {w:World} {v u:Value} {xs ys:List α} (h:LOut en k e B w v xs) (hu:LSl en k w u ys) (hsz:xs.length+ys.length≤10000000000) {dst:Option Tmp} {ty:TypeId} {pos:String} {after:Array Edge} {s y:Operand}
  (hs:a.eval s=v) (hy:a.eval y=u)
  (hk: ∀v' w',LOut en k e B w' v' (xs++ys)→Below B w w'→w.grownBy w' v.ownBlock→wpList P ops Q rest (a.put dst v') w'):
  wpList P ops Q ({dst:=dst,op:= .call {callee:= .builtin .append,args:= #[s,y],argTypes:= #[t,t]},type:=ty,pos:=pos,after:=after,guard:=none}::rest) a w:=by
 obtain ⟨v',w',hr,ho,hg,_⟩:=run_appendMX E (ty:=ty) h hu hsz
 refine wpList_exec rfl (v:=v') (w':=w') ?_ (hk v' w' ho ((Below.refl B w).grown hg h.le h.lo) hg)
 simp only [execOp,resolve,invoke,builtin,Sem.run_bind,Sem.run_pure,Result.andThen_ok,List.map_toArray,List.map_cons,List.map_nil,hs,hy,hr]
theorem wpList_appendM {ops:Array Oper} {rest:List Oper} {a:Act} {Q:Exit→Act→World→Prop} (E:ElT P t e k en) {B:Nat} {w:World} {v u:Value} {xs ys:List α} (h:LOut en k e B w v xs) (hu:LSl en k w u ys) (hsz:xs.length+ys.length≤100000) {dst:Option Tmp} {ty:TypeId} {pos:String} {after:Array Edge} {s y:Operand}
  (hs:a.eval s=v) (hy:a.eval y=u)
  (hk: ∀v' w',LOut en k e B w' v' (xs++ys)→Below B w w'→w.grownBy w' v.ownBlock→wpList P ops Q rest (a.put dst v') w'):
  wpList P ops Q ({dst:=dst,op:= .call {callee:= .builtin .append,args:= #[s,y],argTypes:= #[t,t]},type:=ty,pos:=pos,after:=after,guard:=none}::rest) a w:=
 wpList_appendMX E h hu (by omega) hs hy hk
theorem wpList_append1X {ops:Array Oper} {rest:List Oper} {a:Act} {Q:Exit→Act→World→Prop} (E:ElT P t e k en) {B:Nat} {w wx:World} {v:Value} {xs:List α} (h:LOut en k e B w v xs) (x:α) (hsz:xs.length≤1000000000) {dst:Option Tmp} {ty:TypeId} {pos:String} {after:Array Edge} {s y:Operand}
  (hwx:wx=w.alloc (.cells (en x).toArray e)) (hs:a.eval s=v) (hy:a.eval y= .slice (some ⟨w.heap.size,0,none⟩) 1 1)
  (hk: ∀v' w',LOut en k e B w' v' (xs++ [x])→Below B w w'→wpList P ops Q rest (a.put dst v') w'):
  wpList P ops Q ({dst:=dst,op:= .call {callee:= .builtin .append,args:= #[s,y],argTypes:= #[t,t]},type:=ty,pos:=pos,after:=after,guard:=none}::rest) a wx:=by
 subst hwx
 exact wpList_appendMX E (h.below ((Below.refl _ _).alloc (Nat.le_refl _) _)) (LSl.lit E.len e) (by simp;omega) hs hy fun v' w' ho hb _=>hk v' w' ho (((Below.refl _ _).alloc h.le _).trans hb)
theorem wpList_append1 {ops:Array Oper} {rest:List Oper} {a:Act} {Q:Exit→Act→World→Prop} (E:ElT P t e k en) {B:Nat} {w wx:World} {v:Value} {xs:List α} (h:LOut en k e B w v xs) (x:α) (hsz:xs.length≤1000) {dst:Option Tmp} {ty:TypeId} {pos:String} {after:Array Edge} {s y:Operand}
  (hwx:wx=w.alloc (.cells (en x).toArray e)) (hs:a.eval s=v) (hy:a.eval y= .slice (some ⟨w.heap.size,0,none⟩) 1 1)
  (hk: ∀v' w',LOut en k e B w' v' (xs++ [x])→Below B w w'→wpList P ops Q rest (a.put dst v') w'):
  wpList P ops Q ({dst:=dst,op:= .call {callee:= .builtin .append,args:= #[s,y],argTypes:= #[t,t]},type:=ty,pos:=pos,after:=after,guard:=none}::rest) a wx:=
 wpList_append1X E h x (by omega) hwx hs hy hk
variable {α:Type} {en:α→List Value} {k:Nat} {e:TypeId}
structure LRd (en:α→List Value) (k:Nat) (B:Nat) (w:World) (v:Value) (xs:List α):Prop where
 sl:LSl en k w v xs
 lo: ∀r,v.ownBlock=some r→B≤r
 lt: ∀r,v.ownBlock=some r→r<w.heap.size
theorem LRd.kept {B:Nat} {w w':World} {v:Value} {xs:List α} (h:LRd en k B w v xs) (hs:w.heap.size≤w'.heap.size) (hb: ∀r,v.ownBlock=some r→w'.heap[r]?=w.heap[r]?):LRd en k B w' v xs:=by
 refine ⟨?_,h.lo,fun r hr=>Nat.lt_of_lt_of_le (h.lt r hr) hs⟩
 obtain ⟨ao,cap,rfl,h1,h2,h3⟩:=h.sl
 refine ⟨ao,cap,rfl,h1,h2,fun h0=> ?_⟩
 obtain ⟨b,off,rfl,hlt,hc⟩:=h3 h0
 refine ⟨b,off,rfl,Nat.lt_of_lt_of_le hlt hs,fun i x hi j hj=> ?_⟩
 have:=hc i x hi j hj
 simp only [World.cell?] at this ⊢
 rw [hb b rfl]
 exact this
theorem LRd.below {B:Nat} {w w':World} {v:Value} {xs:List α} (h:LRd en k B w v xs) (hb:Below w.heap.size w w'):LRd en k B w' v xs:=
 h.kept hb.size fun _ hr=>hb.block _ (h.lt _ hr)
theorem LRd.mono {B B':Nat} {w:World} {v:Value} {xs:List α} (h:LRd en k B w v xs) (hB:B'≤B):LRd en k B' w v xs:=
 ⟨h.sl,fun r hr=>Nat.le_trans hB (h.lo r hr),h.lt⟩
theorem LOut.rd (hen: ∀x,(en x).length=k) {B:Nat} {w:World} {v:Value} {xs:List α} (h:LOut en k e B w v xs):LRd en k B w v xs:=
 ⟨h.sl hen,h.lo,fun _ hr=>h.lt hr⟩
section
variable {P:Program} {ops:Array Oper} {Q:Exit→Act→World→Prop} {S:World→Prop} {k:Nat→Nat}
def Ob (S:World→Prop) (k:Nat) (w w':World):Prop:=(k=0→w'=w)∧(k=1→S w')
def anyX (P:Program) (ops:Array Oper) (Q:Exit→Act→World→Prop) (S:World→Prop) (k:Nat→Nat):Nat→Array Bool→Act→World→Prop
 | 0,listed,a,w=>Region.ready .any ops listed= []∧Q .normal a w
 | fuel+1,listed,a,w=>
  (Region.ready .any ops listed= []→Q .normal a w)∧
  ∀i∈Region.ready .any ops listed,wpOp P ops Q i (fun a' w'=>Ob S (k i) w w'∧anyX P ops Q S k fuel (listed.setIfInBounds i true) a' w') a w
theorem wpAny_of_anyX: ∀(fuel:Nat) (listed:Array Bool) (a:Act) (w:World),anyX P ops Q S k fuel listed a w→wpAny P .any ops Q fuel listed a w
 | 0,_,_,_,h=>h
 | fuel+1,_,_,_,h=>⟨h.1,fun i hi=>wpOp_mono (fun a' w' h'=>wpAny_of_anyX fuel _ a' w' h'.2) (h.2 i hi)⟩
theorem anyX_take {i:Nat} {oi:Oper} {v:Value} (hi:ops[i]?=some oi) (hk:k i=0) (hsel: ∀(j:Nat) (o:Oper) cs b,ops[j]?=some o→o.op≠ .select cs b)
  (hQ: ∀d v c a w,Q (.panic c) (Act.put a d v) w→Q (.panic c) a w):
  ∀(fuel:Nat) (listed:Array Bool) (a:Act) (w:World),
   (∀j oj,ops[j]?=some oj→j≠i→listed.getD j true=false→(∀e∈oj.after,Region.binds .any e=true→e.on≠i)→oi.apart ops oj=true)→
   i∈Region.ready .any ops listed→Yields P ops oi v a→
   anyX P ops Q S k fuel (listed.setIfInBounds i true) (a.put oi.dst v) w→anyX P ops Q S k (fuel+1) listed a w:=by
 have ob: ∀w:World,Ob S (k i) w w:=fun w=>⟨fun _=>rfl,fun h=>by rw [hk] at h;cases h⟩
 intro fuel
 induction fuel with
 | zero=>
  intro listed a w _ hr hy H
  refine ⟨fun h=>(by rw [h] at hr;cases hr),fun j hj=> ?_⟩
  by_cases hji:j=i
  ·subst hji;exact hy.wpOp hi ⟨ob w,H⟩
  ·have:=ready_mono hj hji
   rw [H.1] at this
   cases this
 | succ fuel ih=>
  intro listed a w hfree hr hy H
  refine ⟨fun h=>(by rw [h] at hr;cases hr),fun j hj=> ?_⟩
  by_cases hji:j=i
  ·subst hji;exact hy.wpOp hi ⟨ob w,H⟩
  ·have h1:=H.2 j (ready_mono hj hji)
   obtain ⟨hjun,oj,hoj,hall⟩:=mem_ready.1 hj
   have hnot: ∀e∈oj.after,Region.binds .any e=true→e.on≠i:=fun e he hb heq=>by
    have h1:=hall e he hb
    rw [heq,getD_both (mem_ready.1 hr).1] at h1
    cases h1
   have h2:=wpOp_put hoj (hfree j oj hoj hji hjun hnot) (fun cs b=>hsel i oi cs b hi) (fun cs b=>hsel j oj cs b hoj) (fun c a w=>hQ _ _ c a w) hy h1
   refine wpOp_mono (fun a' w' h3=>⟨h3.2.1,ih (listed.setIfInBounds j true) a' w' (fun k ok hk hki hunk hno=>hfree k ok hk hki ?_ hno) (ready_mono hr (Ne.symm hji)) h3.1 ?_⟩) h2
   ·by_cases hjk:j=k
    ·subst hjk;exact hjun
    ·rw [getD_set_ne true hjk] at hunk;exact hunk
   ·rw [Array.setIfInBounds_comm _ _ hji]
    exact h3.2.2
structure Cl (ops:Array Oper) (listed:Array Bool):Prop where
 size:listed.size=ops.size
 closed: ∀j oj,ops[j]?=some oj→listed.getD j false=true→ ∀e∈oj.after,Region.binds .any e=true→listed.getD e.on false=true
theorem Cl.set {i:Nat} {listed:Array Bool} (inv:Cl ops listed) (hi:i∈Region.ready .any ops listed):Cl ops (listed.setIfInBounds i true):=by
 obtain ⟨_,oi,hoi,hall⟩:=mem_ready.1 hi
 refine ⟨by simp [inv.size],fun j oj hj hl e he hb=> ?_⟩
 by_cases hij:i=j
 ·subst hij
  have:oj=oi:=Option.some.inj (hj.symm.trans hoi)
  subst this
  exact getD_set_true (hall e he hb)
 ·rw [getD_set_ne false hij] at hl
  exact getD_set_true (inv.closed j oj hj hl e he hb)
theorem anyX_read {i:Nat} {oi:Oper} {v:Value} (hi:ops[i]?=some oi) (hk:k i=0) (hk3: ∀j,k j=0∨k j=1∨k j=2) (hsel: ∀(j:Nat) (o:Oper) cs b,ops[j]?=some o→o.op≠ .select cs b)
  (hQ: ∀d v c a w,Q (.panic c) (Act.put a d v) w→Q (.panic c) a w) (hgate: ∀listed:Array Bool,listed.getD i true=false→Cl ops listed→ ∀j,k j=2→j∉Region.ready .any ops listed):
  ∀(fuel:Nat) (listed:Array Bool) (a:Act) (w:World),Cl ops listed→
   (∀j oj,ops[j]?=some oj→j≠i→listed.getD j true=false→(∀e∈oj.after,Region.binds .any e=true→e.on≠i)→oi.apart ops oj=true)→
   i∈Region.ready .any ops listed→YieldsIf P ops S oi v a→S w→
   anyX P ops Q S k fuel (listed.setIfInBounds i true) (a.put oi.dst v) w→anyX P ops Q S k (fuel+1) listed a w:=by
 have ob: ∀w:World,Ob S (k i) w w:=fun w=>⟨fun _=>rfl,fun h=>by rw [hk] at h;cases h⟩
 intro fuel
 induction fuel with
 | zero=>
  intro listed a w _ _ hr hy hS H
  refine ⟨fun h=>(by rw [h] at hr;cases hr),fun j hj=> ?_⟩
  by_cases hji:j=i
  ·subst hji;exact hy.wpOp hi hS ⟨ob w,H⟩
  ·have:=ready_mono hj hji
   rw [H.1] at this
   cases this
 | succ fuel ih=>
  intro listed a w hout hfree hr hy hS H
  refine ⟨fun h=>(by rw [h] at hr;cases hr),fun j hj=> ?_⟩
  by_cases hji:j=i
  ·subst hji;exact hy.wpOp hi hS ⟨ob w,H⟩
  ·have h1:=H.2 j (ready_mono hj hji)
   obtain ⟨hjun,oj,hoj,hall⟩:=mem_ready.1 hj
   have hnot: ∀e∈oj.after,Region.binds .any e=true→e.on≠i:=fun e he hb heq=>by
    have h1:=hall e he hb
    rw [heq,getD_both (mem_ready.1 hr).1] at h1
    cases h1
   have h2:=wpOp_putIf hoj (hfree j oj hoj hji hjun hnot) (fun cs b=>hsel i oi cs b hi) (fun cs b=>hsel j oj cs b hoj) (fun c a w=>hQ _ _ c a w) hy h1
   refine wpOp_mono (fun a' w' h3=>⟨h3.2.1,ih (listed.setIfInBounds j true) a' w' ?_ (fun k ok hk hki hunk hno=>hfree k ok hk hki ?_ hno) (ready_mono hr (Ne.symm hji)) h3.1 ?_ ?_⟩) h2
   ·exact hout.set hj
   ·by_cases hjk:j=k
    ·subst hjk;exact hjun
    ·rw [getD_set_ne true hjk] at hunk;exact hunk
   ·rcases hk3 j with h|h|h
    ·rw [h3.2.1.1 h];exact hS
    ·exact h3.2.1.2 h
    ·exact absurd hj (hgate listed (mem_ready.1 hr).1 hout j h)
   ·rw [Array.setIfInBounds_comm _ _ hji]
    exact h3.2.2
def kindOf (ord:List (Nat×Nat)) (j:Nat):Nat:=
 match ord.find? (·.1==j) with
 | some (_,0)|some (_,1)|none=>0
 | some (_,2)=>1
 | some _=>2
theorem kindOf_three (ord:List (Nat×Nat)) (j:Nat):kindOf ord j=0∨kindOf ord j=1∨kindOf ord j=2:=by
 unfold kindOf
 split<;>simp
def gatesB (ops:Array Oper) (ord:List (Nat×Nat)):Bool:=
 let gated:=(ord.filter (·.2==3)).map (·.1)
 let reads:=(ord.filter (·.2==0)).map (·.1)
 gated.all fun t=>reads.all fun r=>Region.waitsFor .any ops t r||gated.any fun g=>Region.waitsFor .any ops t g&&Region.waitsFor .any ops g r&&decide (t≠g)
def stepsB (ops:Array Oper):List (Nat×Nat)→Array Bool→Bool
 | [],listed=>(Region.ready .any ops listed).isEmpty
 | (i,t)::r,listed=>
  (match ops[i]? with
   | some o=>o.guard.isNone&&decide (i<listed.size)&&
    (if t=0∨t=1 then Region.free .any ops listed i&&(Region.ready .any ops listed).contains i else decide (Region.ready .any ops listed= [i]))
   | none=>false)&&stepsB ops r (listed.setIfInBounds i true)
def orderB (ops:Array Oper) (ord:List (Nat×Nat)):Bool:=
 Region.noSelect ops&&decide (ord.length=ops.size)&&gatesB ops ord&&stepsB ops ord (Array.replicate ops.size false)&&decide (ord.map (·.1)).Nodup&&ord.all fun x=>decide (x.2≤3)
def wpX (P:Program) (ops:Array Oper) (Q:Exit→Act→World→Prop) (S:World→Prop):List (Nat×Nat)→Act→World→Prop
 | [],a,w=>Q .normal a w
 | (i,t)::r,a,w=> ∃o,ops[i]?=some o∧
  match t with
  | 0=>S w∧ ∃v,(∀w,S w→(execOp a.eval o).run P w= .ok (.value v) w)∧wpX P ops Q S r (a.put o.dst v) w
  | 1=> ∃v,(∀w,(execOp a.eval o).run P w= .ok (.value v) w)∧wpX P ops Q S r (a.put o.dst v) w
  | 2=>o.wp P a w (fun a' w'=>S w'∧wpX P ops Q S r a' w') Q
  | _=>o.wp P a w (wpX P ops Q S r) Q∨(o.asks P a w∧LetsOut Q)
theorem kindOf_mem {ord:List (Nat×Nat)} (hnd:(ord.map (·.1)).Nodup) {i t:Nat} (h:(i,t)∈ord):ord.find? (·.1==i)=some (i,t):=by
 induction ord with
 | nil=>cases h
 | cons x r ih=>
  simp only [List.map_cons,List.nodup_cons] at hnd
  rcases List.mem_cons.1 h with rfl|h
  ·simp
  ·have:x.1≠i:=fun e=>hnd.1 (List.mem_map.2 ⟨(i,t),h,e.symm⟩)
   simp only [List.find?_cons,beq_eq_false_iff_ne.2 this]
   exact ih hnd.2 h
theorem gates_spec {ord:List (Nat×Nat)} (hnd:(ord.map (·.1)).Nodup) (hg:gatesB ops ord=true) {i:Nat} (hi:(i,0)∈ord) (h3: ∀x∈ord,x.2≤3) (listed:Array Bool) (hun:listed.getD i false=false)
  (hcl: ∀j oj,ops[j]?=some oj→listed.getD j false=true→ ∀e∈oj.after,Region.binds .any e=true→listed.getD e.on false=true):
  ∀j,kindOf ord j=2→j∉Region.ready .any ops listed:=by
 intro j hj hr
 have hmem:(j,3)∈ord:=by
  unfold kindOf at hj
  split at hj<;>first|cases hj|skip
  rename_i x h0 h1 h2 hf
  obtain ⟨a,b⟩:=x
  have hm:=List.mem_of_find?_eq_some hf
  have hp:=List.find?_some hf
  simp at hp
  subst hp
  have:=h3 _ hm
  match b,this with
  | 0,_=>exact absurd rfl (h0 a)
  | 1,_=>exact absurd rfl (h1 a)
  | 2,_=>exact absurd rfl (h2 a)
  | 3,_=>exact hm
 simp only [gatesB,List.all_eq_true,List.mem_map,List.mem_filter,List.any_eq_true,Bool.or_eq_true,Bool.and_eq_true,forall_exists_index,and_imp] at hg
 have hjg:=hg j (j,3) hmem (by simp) rfl i (i,0) hi (by simp) rfl
 rcases hjg with h|⟨g,⟨⟨x,_,rfl⟩,⟨h1,h2⟩,_⟩⟩
 ·exact not_ready h hun hr
 ·have hgl:listed.getD x.1 false=true:=by
   cases hl:listed.getD x.1 false with
   | true=>rfl
   | false=>exact absurd hr (not_ready h1 hl)
  obtain ⟨og,hog,e,he,hb,hon⟩:=Region.waitsFor_spec h2
  have:=hcl x.1 og hog hgl e he hb
  rw [hon,hun] at this
  cases this
theorem anyX_of_wpX {full:List (Nat×Nat)} (hsel:Region.noSelect ops=true) (hQ: ∀d v c a w,Q (.panic c) (Act.put a d v) w→Q (.panic c) a w) (hnd:(full.map (·.1)).Nodup) (hg:gatesB ops full=true) (h3: ∀x∈full,x.2≤3):
  ∀(ord:List (Nat×Nat)) (listed:Array Bool) (a:Act) (w:World),(∀x∈ord,x∈full)→Cl ops listed→stepsB ops ord listed=true→wpX P ops Q S ord a w→anyX P ops Q S (kindOf full) ord.length listed a w
 | [],listed,a,w,_,_,hB,h=>⟨by simpa [stepsB] using hB,h⟩
 | (i,t)::r,listed,a,w,hsub,hcl,hB,h=>by
  simp only [stepsB,Bool.and_eq_true] at hB
  obtain ⟨h1,h2⟩:=hB
  obtain ⟨o,ho,h⟩:=h
  simp only [ho,Bool.and_eq_true,Option.isNone_iff_eq_none,decide_eq_true_eq] at h1
  obtain ⟨⟨hgd,hlt⟩,h1⟩:=h1
  have hw:Region.wanted o (yielded ops a.tmps)=true:=by simp [Region.wanted,hgd]
  have hmem:(i,t)∈full:=hsub _ (by simp)
  have hsub': ∀x∈r,x∈full:=fun x hx=>hsub x (by simp [hx])
  have hk:kindOf full i=(match t with|0=>0|1=>0|2=>1|_=>2):=by
   unfold kindOf
   rw [kindOf_mem hnd hmem]
   match t with
   | 0=>rfl
   | 1=>rfl
   | 2=>rfl
   | t+3=>rfl
  rcases t with _|_|_|t
  ·obtain ⟨hS,v,hv,hn⟩:=h
   simp only [true_or,if_true,Bool.and_eq_true] at h1
   have hr:i∈Region.ready .any ops listed:=by simpa using h1.2
   exact anyX_read ho hk (kindOf_three full) (Region.noSelect_spec hsel) hQ (fun listed' hun hcl'=>gates_spec hnd hg hmem h3 listed' (getD_both hun) hcl'.closed) r.length listed a w hcl (Region.free_spec ho h1.1) hr
    (.inl ⟨hw,hv⟩) hS (anyX_of_wpX hsel hQ hnd hg h3 r _ _ _ hsub' (hcl.set hr) h2 hn)
  ·obtain ⟨v,hv,hn⟩:=h
   simp only [Nat.zero_add,or_true,if_true,Bool.and_eq_true] at h1
   have hr:i∈Region.ready .any ops listed:=by simpa using h1.2
   exact anyX_take ho hk (Region.noSelect_spec hsel) hQ r.length listed a w (Region.free_spec ho h1.1) hr (.inl ⟨hw,hv⟩) (anyX_of_wpX hsel hQ hnd hg h3 r _ _ _ hsub' (hcl.set hr) h2 hn)
  ·have hr:Region.ready .any ops listed= [i]:=by simpa using h1
   refine ⟨fun h0=>absurd (hr ▸ h0) (by simp),fun j hj=> ?_⟩
   obtain rfl:j=i:=by rw [hr] at hj;simpa using hj
   unfold wpOp
   simp only [ho,hw,if_true]
   refine .inl (Oper.wp_mono (fun a' w' h'=>⟨⟨fun h0=> ?_,fun _=>h'.1⟩,anyX_of_wpX hsel hQ hnd hg h3 r _ a' w' hsub' (hcl.set hj) h2 h'.2⟩) h)
   rw [hk] at h0;cases h0
  ·have hr:Region.ready .any ops listed= [i]:=by simpa using h1
   refine ⟨fun h0=>absurd (hr ▸ h0) (by simp),fun j hj=> ?_⟩
   obtain rfl:j=i:=by rw [hr] at hj;simpa using hj
   unfold wpOp
   simp only [ho,hw,if_true]
   refine h.imp (Oper.wp_mono (fun a' w' h'=>⟨⟨fun h0=> ?_,fun h0=> ?_⟩,anyX_of_wpX hsel hQ hnd hg h3 r _ a' w' hsub' (hcl.set hj) h2 h'⟩)) id
   ·rw [hk] at h0;cases h0
   ·rw [hk] at h0;cases h0
theorem wp_region_x {id:Nat} {ops:Array Oper} {a:Act} {w:World} (S:World→Prop) (ord:List (Nat×Nat)) (hm:P.follows .mixedOrders=true) (hB:orderB ops ord=true)
  (hQ: ∀d v c a w,Q (.panic c) (Act.put a d v) w→Q (.panic c) a w) (h:wpX P ops Q S ord a w.drew):(Code.region id ops true).wp P Q a w:=by
 simp only [orderB,Bool.and_eq_true,decide_eq_true_eq,List.all_eq_true] at hB
 obtain ⟨⟨⟨⟨⟨hsel,hlen⟩,hg⟩,hs⟩,hnd⟩,h3⟩:=hB
 refine wp_region_any hm (wpAny_of_anyX (S:=S) (k:=kindOf ord) _ _ _ _ ?_)
 have:=anyX_of_wpX hsel hQ hnd hg h3 ord (Array.replicate ops.size false) a w.drew (fun _ h=>h) ⟨by simp,fun j oj _ hl=>(by rw [getD_replicate_false] at hl;cases hl)⟩ hs h
 rw [hlen] at this
 exact this
theorem x_nil {a:Act} {w:World} (h:Q .normal a w):wpX P ops Q S [] a w:=h
theorem x_read {i:Nat} {r:List (Nat×Nat)} {a:Act} {w:World} {o:Oper} (ho:ops[i]?=some o) (hS:S w) {v:Value} (hv: ∀w,S w→(execOp a.eval o).run P w= .ok (.value v) w) (h:wpX P ops Q S r (a.put o.dst v) w):wpX P ops Q S ((i,0)::r) a w:=
 ⟨o,ho,hS,v,hv,h⟩
theorem x_take {i:Nat} {r:List (Nat×Nat)} {a:Act} {w:World} {o:Oper} (ho:ops[i]?=some o) (h: ∀K:Act→Prop,(∀a,wpX P ops Q S r a w→K a)→ ∃v,(∀w,(execOp a.eval o).run P w= .ok (.value v) w)∧K (a.put o.dst v)):wpX P ops Q S ((i,1)::r) a w:=by
 obtain ⟨v,hv,hn⟩:=h _ (fun _ h=>h)
 exact ⟨o,ho,v,hv,hn⟩
theorem x_show' {i:Nat} {r:List (Nat×Nat)} {a:Act} {w:World} {o:Oper} (ho:ops[i]?=some o) (h: ∀K:Act→World→Prop,(∀a w,S w→wpX P ops Q S r a w→K a w)→o.wp P a w K Q):wpX P ops Q S ((i,2)::r) a w:=
 ⟨o,ho,h _ (fun _ _ h1 h2=>⟨h1,h2⟩)⟩
theorem x_exec' {i:Nat} {r:List (Nat×Nat)} {a:Act} {w:World} {o:Oper} (ho:ops[i]?=some o) (h: ∀K:Act→World→Prop,(∀a w,wpX P ops Q S r a w→K a w)→o.wp P a w K Q):wpX P ops Q S ((i,3)::r) a w:=
 ⟨o,ho, .inl (h _ (fun _ _ h=>h))⟩
theorem x_show {i:Nat} {r:List (Nat×Nat)} {a:Act} {w:World} {o:Oper} (ho:ops[i]?=some o) {v:Value} {w':World} (hr:(execOp a.eval o).run P w= .ok (.value v) w') (hS:S w') (h:wpX P ops Q S r (a.put o.dst v) w'):wpX P ops Q S ((i,2)::r) a w:=by
 refine ⟨o,ho,?_⟩
 simp only [Oper.wp,hr,Oper.upon]
 exact ⟨hS,h⟩
theorem x_exec {i:Nat} {r:List (Nat×Nat)} {a:Act} {w:World} {o:Oper} (ho:ops[i]?=some o) {v:Value} {w':World} (hr:(execOp a.eval o).run P w= .ok (.value v) w') (h:wpX P ops Q S r (a.put o.dst v) w'):wpX P ops Q S ((i,3)::r) a w:=by
 refine ⟨o,ho, .inl ?_⟩
 simp only [Oper.wp,hr,Oper.upon]
 exact h
theorem x_skip {i:Nat} {r:List (Nat×Nat)} {a:Act} {w:World} {o:Oper} (ho:ops[i]?=some o) {w':World} (hr:(execOp a.eval o).run P w= .ok .skip w') (h:wpX P ops Q S r (a.put o.dst undef) w'):wpX P ops Q S ((i,3)::r) a w:=by
 refine ⟨o,ho, .inl ?_⟩
 simp only [Oper.wp,hr,Oper.upon]
 exact h
theorem exec_build {ρ:Operand→Value} {dst:Option Tmp} {ty:TypeId} {pos:String} {after:Array Edge} {g:Option (Nat×Bool)} {t:TypeId} {parts:Array (Nat×Operand)} {vals:Array (Nat×Value)} {w:World} {v:Value} (hp:parts.toList.map (fun x=>(x.1,ρ x.2))=vals.toList) (hr:(Instr.build t vals).run P w= .ok v w):
  (execOp ρ ⟨dst, .build t parts,ty,pos,after,g⟩).run P w= .ok (.value v) w:=by
 have hp':parts.map (fun x=>(x.1,ρ x.2))=vals:=by
  apply Array.ext'
  rw [Array.toList_map,hp]
 simp only [execOp,hp',Sem.run_bind,hr,Result.andThen_ok,Sem.run_pure]
theorem exec_buildSlice {ρ:Operand→Value} {dst:Option Tmp} {ty:TypeId} {pos:String} {after:Array Edge} {g:Option (Nat×Bool)} {t:TypeId} {n:Nat} {parts:Array (Nat×Operand)} {vals:Array (Nat×Value)} {w w':World} {v:Value} (hp:parts.toList.map (fun x=>(x.1,ρ x.2))=vals.toList) (hr:(Instr.buildSlice t n vals).run P w= .ok v w'):
  (execOp ρ ⟨dst, .buildSlice t n parts,ty,pos,after,g⟩).run P w= .ok (.value v) w':=by
 have hp':parts.map (fun x=>(x.1,ρ x.2))=vals:=by
  apply Array.ext'
  rw [Array.toList_map,hp]
 simp only [execOp,hp',Sem.run_bind,hr,Result.andThen_ok,Sem.run_pure]
structure ScalarT (P:Program) (t:TypeId):Prop where
 plain: ∃d,P.underlying t=some d∧(match d with| .struct _| .array _ _=>false|_=>true)=true
theorem exec_load1 {ρ:Operand→Value} {dst:Option Tmp} {ty:TypeId} {pos:String} {after:Array Edge} {g:Option (Nat×Bool)} {t:TypeId} {x:Operand} {w:World} {b o:Nat} {v:Value} (hT:ScalarT P t) (hx:ρ x= .pointer (some ⟨b,o,none⟩)) (hv:w.cell? ⟨b,o,none⟩=some v):
  (execOp ρ ⟨dst, .load t x,ty,pos,after,g⟩).run P w= .ok (.value v) w:=by
 obtain ⟨d,hu,hd⟩:=hT.plain
 have hagg:(isAgg t).run P w= .ok false w:=by cases d<;>simp at hd<;>simp [isAgg,underlying,hu]
 simp [execOp,hx,Instr.loadAt,Instr.sureAddr,loadVar,hagg,hv]
theorem exec_loadA {ρ:Operand→Value} {dst:Option Tmp} {ty:TypeId} {pos:String} {after:Array Edge} {g:Option (Nat×Bool)} {t:TypeId} {x:Operand} {w:World} {b o:Nat} {cs:Array Value} (hT:AggT P t cs.size) (hx:ρ x= .pointer (some ⟨b,o,none⟩)) (hL:Lies w b o cs):
  (execOp ρ ⟨dst, .load t x,ty,pos,after,g⟩).run P w= .ok (.value (.agg cs)) w:=by
 simp only [execOp,hx,Sem.run_bind,run_loadA hT hL,Result.andThen,Sem.run_pure]
theorem madeCells_one (z:Value) (n:Nat):madeCells #[z] n=(List.replicate n z).toArray:=by
 rw [←toList_madeCells_one]
theorem exec_make1 {ρ:Operand→Value} {dst:Option Tmp} {ty:TypeId} {pos:String} {after:Array Edge} {g:Option (Nat×Bool)} {t e:TypeId} {x y:Operand} {w:World} {i:TypeInfo} {z:Value} {n:Nat} (ht:P.underlying t=some (.slice e)) (hi:P.info? e=some i) (hz:i.zero=some z) (hs:i.size=1) (hzc:z.cells= #[z])
  (hb:i.bytes*n≤281474976710656) (hn:n≤maxLen) (hx:ρ x= .int .i64 n) (hy:ρ y= .int .i64 n):
  (execOp ρ ⟨dst, .makeSlice t x y,ty,pos,after,g⟩).run P w= .ok (.value (.slice (some ⟨w.heap.size,0,none⟩) n n)) (w.alloc (.cells (List.replicate n z).toArray e)):=by
 have h63:(n:Int)≤9223372036854775807:=by simp [maxLen] at hn;omega
 have hb':(i.bytes:Int)*(n:Int)≤281474976710656:=by
  have h:((i.bytes*n:Nat):Int)≤281474976710656:=by omega
  rwa [Int.natCast_mul] at h
 have hr:=run_make (P:=P) w t e i z ht hi hz .i64 .i64 n n (by omega) (Int.le_refl _) hb' h63
 simp only [Int.toNat_natCast,hs,Nat.mul_one,hzc,madeCells_one] at hr
 simp only [execOp,hx,hy,Sem.run_bind,hr,Result.andThen_ok,Sem.run_pure]
end
end Go.Tn
