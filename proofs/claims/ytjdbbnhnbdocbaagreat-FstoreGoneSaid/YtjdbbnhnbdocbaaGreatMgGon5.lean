import Derived.Test.YtjdbbnhnbdocbaaGreatMgGon3
import Derived.Laws.IdiomCopy
import Derived.Lib.SliceRun
import Derived.Test.YtjdbbnhnbdocbaaGreatMgGon4
import Derived.Laws.Tables
import Derived.Great.BuildSlice
import Derived.Laws.Cover3
namespace Go.Tn
open Go.RowKit
variable {P:Program} {α:Type} {en:α→List Value} {k:Nat} {e t:TypeId}
theorem add_zero (a:Addr):a.add 0=a:=by
 cases a with
 | mk b o s=>cases s<;>simp [Addr.add]
theorem sizeOf_of (hs:(P.info? e).map (·.size)=some k) (w:World):(sizeOf e).run P w= .ok k w:=by
 cases hq:P.info? e with
 | none=>simp [hq] at hs
 | some i=>
  have:i.size=k:=by simpa [hq] using hs
  simp [sizeOf,typeInfo,hq,this]
theorem exec_sliceHi {ρ:Operand→Value} {dst:Option Tmp} {ty:TypeId} {pos:String} {after:Array Edge} {g:Option (Nat×Bool)} {x y:Operand} {w:World} {ao:Option Addr} {len cap i:Nat} (hu:P.underlying t=some (.slice e)) (hs:(P.info? e).map (·.size)=some k) (hi:i≤cap) (hx:ρ x= .slice ao len cap) (hy:ρ y= .int .i64 i):
  (execOp ρ ⟨dst, .slice t x none (some y) none,ty,pos,after,g⟩).run P w= .ok (.value (.slice ao i cap)) w:=by
 have h0:(0:Int)≤(i:Int)∧(i:Int)≤(cap:Int):=by omega
 have ha:(if cap=0 then ao else ao.map (·.add 0))=ao:=by
  split
  ·rfl
  ·cases ao with
   | none=>rfl
   | some a=>simp [add_zero]
 simp only [execOp,hx,hy,Option.map_some,Option.map_none,Instr.sliceAt,Instr.slice,Instr.sliceBounds,Instr.sliceBound,asIntOf,run_underlying hu,Sem.run_bind,Sem.run_pure,Result.andThen_ok,h0,and_self,if_true,sizeOf_of hs,Int.toNat_natCast,Nat.zero_mul,Nat.sub_zero,ha]
theorem exec_sliceLo {ρ:Operand→Value} {dst:Option Tmp} {ty:TypeId} {pos:String} {after:Array Edge} {g:Option (Nat×Bool)} {x y:Operand} {w:World} {ao:Option Addr} {len cap i:Nat} (hu:P.underlying t=some (.slice e)) (hs:(P.info? e).map (·.size)=some k) (hi:i≤len) (hx:ρ x= .slice ao len cap) (hy:ρ y= .int .i64 i):
  (execOp ρ ⟨dst, .slice t x (some y) none none,ty,pos,after,g⟩).run P w= .ok (.value (.slice (if cap=i then ao else ao.map (·.add (i*k))) (len-i) (cap-i))) w:=by
 have h0:(0:Int)≤(i:Int)∧(i:Int)≤(len:Int):=by omega
 simp [execOp,hx,hy,Instr.sliceAt,Instr.slice,Instr.sliceBounds,Instr.sliceBound,asIntOf,run_underlying hu,h0,sizeOf_of hs]
 intro hlt
 omega
theorem LSl.take {w:World} {ao:Option Addr} {n cap:Nat} {xs:List α} (h:LSl en k w (.slice ao n cap) xs) {i:Nat} (hi:i≤xs.length):LSl en k w (.slice ao i cap) (xs.take i):=by
 obtain ⟨ao',cap',hv,h1,h2,h3⟩:=h
 cases hv
 have hl:(xs.take i).length=i:=by rw [List.length_take];omega
 refine ⟨ao,cap,by rw [hl],by rw [hl];omega,h2,fun h0=> ?_⟩
 obtain ⟨b,off,rfl,hlt,hc⟩:=h3 (by omega)
 refine ⟨b,off,rfl,hlt,fun j x hj=>hc j x ?_⟩
 rw [List.getElem?_take] at hj
 split at hj
 ·exact hj
 ·cases hj
theorem LSl.drop {w:World} {ao:Option Addr} {n cap:Nat} {xs:List α} (h:LSl en k w (.slice ao n cap) xs) {i:Nat} (hi:i≤xs.length):LSl en k w (.slice (if cap=i then ao else ao.map (·.add (i*k))) (n-i) (cap-i)) (xs.drop i):=by
 obtain ⟨ao',cap',hv,h1,h2,h3⟩:=h
 cases hv
 have hl:(xs.drop i).length=xs.length-i:=List.length_drop
 refine ⟨_,cap-i,by rw [hl],by rw [hl];omega,by omega,fun h0=> ?_⟩
 rw [hl] at h0
 obtain ⟨b,off,rfl,hlt,hc⟩:=h3 (by omega)
 refine ⟨b,off+i*k,?_,hlt,fun j x hj q hq=> ?_⟩
 ·rw [if_neg (by omega)]
  simp [addr_add]
 ·rw [List.getElem?_drop] at hj
  have:=hc (i+j) x hj q hq
  rw [Nat.add_mul] at this
  rw [show off+i*k+j*k+q=off+(i*k+j*k)+q by omega]
  exact this
theorem exec_sliceLo2 {ρ:Operand→Value} {dst:Option Tmp} {ty:TypeId} {pos:String} {after:Array Edge} {g:Option (Nat×Bool)} {x y:Operand} {w:World} {ao ad:Option Addr} {len cap i ln cn:Nat} (hu:P.underlying t=some (.slice e)) (hs:(P.info? e).map (·.size)=some k) (hi:i≤len) (had:(if cap=i then ao else ao.map (·.add (i*k)))=ad) (hln:len-i=ln) (hcn:cap-i=cn) (hx:ρ x= .slice ao len cap) (hy:ρ y= .int .i64 i):
  (execOp ρ ⟨dst, .slice t x (some y) none none,ty,pos,after,g⟩).run P w= .ok (.value (.slice ad ln cn)) w:=by
 subst had hln hcn
 exact exec_sliceLo hu hs hi hx hy
theorem LSl.drop2 {w:World} {ao ad:Option Addr} {n cap ln cn:Nat} {xs:List α} (h:LSl en k w (.slice ao n cap) xs) {i:Nat} (hi:i≤xs.length) (had:(if cap=i then ao else ao.map (·.add (i*k)))=ad) (hln:n-i=ln) (hcn:cap-i=cn):LSl en k w (.slice ad ln cn) (xs.drop i):=by
 subst had hln hcn
 exact h.drop hi
theorem wpList_appendN {ops:Array Oper} {rest:List Oper} {a:Act} {Q:Exit→Act→World→Prop} (E:ElT P t e k en) {B:Nat} {w:World} {v u:Value} {xs ys:List α} (h:LOut en k e B w v xs) (hu:LSl en k w u ys) (hsz:xs.length+ys.length≤100000) {dst:Option Tmp} {ty:TypeId} {pos:String} {after:Array Edge} {s y:Operand}
  (hs:a.eval s=v) (hy:a.eval y=u)
  (hk: ∀v' w',LOut en k e B w' v' (xs++ys)→w.grownBy w' v.ownBlock→(v'.ownBlock=v.ownBlock∨v'.ownBlock=some w.heap.size)→wpList P ops Q rest (a.put dst v') w'):
  wpList P ops Q ({dst:=dst,op:= .call {callee:= .builtin .append,args:= #[s,y],argTypes:= #[t,t]},type:=ty,pos:=pos,after:=after,guard:=none}::rest) a w:=by
 obtain ⟨v',w',hr,ho,hg,hl⟩:=run_appendM E (ty:=ty) h hu hsz
 refine wpList_exec rfl (v:=v') (w':=w') ?_ (hk v' w' ho hg hl)
 simp only [execOp,resolve,invoke,builtin,Sem.run_bind,Sem.run_pure,Result.andThen_ok,List.map_toArray,List.map_cons,List.map_nil,hs,hy,hr]
theorem flatMap_set (hen: ∀x,(en x).length=k): ∀(xs:List α) (i j:Nat) (x y:α) (u:Value),xs[i]?=some x→j<k→en y=(en x).set j u→(xs.set i y).flatMap en=(xs.flatMap en).set (i*k+j) u
 | [],i,j,x,y,u,h,_,_=>by simp at h
 | z::zs,0,j,x,y,u,h,hj,hy=>by
  have:z=x:=by simpa using h
  subst this
  rw [List.set_cons_zero,List.flatMap_cons,List.flatMap_cons,hy,Nat.zero_mul,Nat.zero_add,List.set_append_left _ _ (by rw [hen];exact hj)]
 | z::zs,i+1,j,x,y,u,h,hj,hy=>by
  have hx:zs[i]?=some x:=by simpa using h
  have e1:(i+1)*k+j=(en z).length+(i*k+j):=by rw [hen,Nat.add_mul];omega
  rw [List.set_cons_succ,List.flatMap_cons,List.flatMap_cons,flatMap_set hen zs i j x y u hx hj hy,e1,List.set_append_right _ _ (Nat.le_add_right _ _),Nat.add_sub_cancel_left]
theorem LOut.set (hen: ∀x,(en x).length=k) {B:Nat} {w:World} {b off n cap:Nat} {xs:List α} (h:LOut en k e B w (.slice (some ⟨b,off,none⟩) n cap) xs) {i j:Nat} {x y:α} {u:Value} (hi:xs[i]?=some x) (hj:j<k) (hy:en y=(en x).set j u):
  LOut en k e B (w.setCell ⟨b,off+i*k+j,none⟩ u) (.slice (some ⟨b,off,none⟩) n cap) (xs.set i y):=by
 rcases h.own.2 with ⟨hv,_⟩|⟨g,cap',cur,hv,h0,hg,hn,hm,hs,ht⟩
 ·cases hv
 ·cases hv
  refine ⟨⟨by rw [len_flatMap hen], .inr ⟨b,cap,cur.setIfInBounds (0+i*k+j) u,by rw [List.length_set],h0,heap_setCell_at hg,by rw [List.length_set];exact hn,hm,by simpa using hs,?_⟩⟩,h.lo,by simpa [World.setCell] using h.le⟩
  rw [flatMap_set hen xs i j x y u hi hj hy, ←ht,List.length_set,Nat.zero_add]
  simp [List.take_set]
theorem LOut.frozen {B:Nat} {w:World} {b off n cap:Nat} {xs:List α} (h:LOut en k e B w (.slice (some ⟨b,off,none⟩) n cap) xs) (o:Nat):w.frozen? ⟨b,o,none⟩=false:=by
 rcases h.own.2 with ⟨hv,_⟩|⟨g,cap',cur,hv,h0,hg,_⟩
 ·cases hv
 ·cases hv
  exact free_of hg
section
variable {κ:Type} {P:Program} {K T E m clk:Nat} {enc:κ→Value} {L:Ents κ} {w:World}
theorem run_clearMap {ty:TypeId} (hT:P.underlying T=some (.map K E)) (hb:w.heap[m]?=some (.map (ents enc L) clk)):
  (Builtin.clear_ #[T] ty #[.map (some m)]).run P w= .ok (.tuple #[]) (setObjW w m (.map (ents enc ([]:Ents κ)) clk)):=by
 have hund:(underlying T).run P w= .ok (.map K E) w:=by simp [underlying,hT]
 have e1: ∀(x:TypeId),(#[x]:Array TypeId)[0]?=some x:=fun _=>rfl
 have e2: ∀(x:Value),(#[x]:Array Value)[0]?=some x:=fun _=>rfl
 simp only [Builtin.clear_,e1,e2,Sem.run_bind,hund,Result.andThen_ok,run_getObj hb,run_setObj hb,Sem.run_pure]
 rfl
theorem exec_clearMap {ρ:Operand→Value} {dst:Option Tmp} {ty:TypeId} {pos:String} {after:Array Edge} {g:Option (Nat×Bool)} (hT:P.underlying T=some (.map K E)) (hb:w.heap[m]?=some (.map (ents enc L) clk)) {x:Operand} (hx:ρ x= .map (some m)):
  (execOp ρ ⟨dst, .call {callee:= .builtin .clear,args:= #[x],argTypes:= #[T]},ty,pos,after,g⟩).run P w= .ok (.value (.tuple #[])) (setObjW w m (.map (ents enc ([]:Ents κ)) clk)):=by
 simp only [execOp,resolve,invoke,builtin,Sem.run_bind,Sem.run_pure,Result.andThen_ok,List.map_toArray,List.map_cons,List.map_nil,hx,run_clearMap hT hb]
end
def setMany (cur:Array Value):Nat→List Value→Array Value
 | _, []=>cur
 | o,v::r=>setMany (cur.setIfInBounds o v) (o+1) r
theorem setMany_size: ∀(vs:List Value) (o:Nat) (cur:Array Value),(setMany cur o vs).size=cur.size
 | [],_,_=>rfl
 | v::r,o,cur=>by rw [setMany,setMany_size r];simp
theorem setMany_get: ∀(vs:List Value) (o:Nat) (cur:Array Value) (i:Nat),i<cur.size→(setMany cur o vs)[i]?=if o≤i∧i<o+vs.length then vs[i-o]? else cur[i]?
 | [],o,cur,i,_=>by rw [setMany,List.length_nil,if_neg (by omega)]
 | v::r,o,cur,i,hi=>by
  rw [setMany,setMany_get r (o+1) _ i (by simpa using hi)]
  by_cases h1:i=o
  ·subst h1
   rw [if_neg (by omega),if_pos (by simp)]
   simp [hi]
  ·by_cases h2:o+1≤i∧i<o+1+r.length
   ·rw [if_pos h2,if_pos (by rw [List.length_cons];omega),show i-o=(i-(o+1))+1 by omega]
    simp
   ·rw [if_neg h2,if_neg (by rw [List.length_cons];omega)]
    rw [Array.getElem?_setIfInBounds_ne (by omega)]
theorem heap_setCells_at {b:Nat} {T:TypeId} {fr:Nat×Nat}: ∀(vs:List Value) (o:Nat) (w:World) (cur:Array Value),w.heap[b]?=some (.cells cur T fr)→(w.setCells b o vs).heap[b]?=some (.cells (setMany cur o vs) T fr)
 | [],_,_,_,h=>h
 | v::r,o,w,cur,h=>by
  rw [World.setCells,setMany]
  exact heap_setCells_at r (o+1) _ _ (heap_setCell_at h)
theorem size_setCells (b:Nat): ∀(vs:List Value) (o:Nat) (w:World),(w.setCells b o vs).heap.size=w.heap.size
 | [],_,_=>rfl
 | v::r,o,w=>by rw [World.setCells,size_setCells b r];simp [World.setCell]
theorem Mod.setCells {S:Nat→Prop} {b:Nat} {a:World} (hS:b<a.heap.size→S b): ∀(vs:List Value) (o:Nat) (w:World),Mod S a w→Mod S a (w.setCells b o vs)
 | [],_,_,h=>h
 | v::r,o,w,h=>by
  rw [World.setCells]
  exact Mod.setCells hS r (o+1) _ (h.setCell ⟨b,o,none⟩ v hS)
section
variable {P:Program} {α:Type} {en:α→List Value} {k B:Nat} {e:TypeId} {w:World}
theorem run_storeA {t:TypeId} {b o:Nat} {cs cur:Array Value} {T:TypeId} (hT:AggT P t cs.size) (hb:w.heap[b]?=some (.cells cur T (0,0))) (ho:o+cs.size≤cur.size) (h1: ∀v∈cs.toList,v.oneCell'=true):
  (Instr.storeAt t (.pointer (some ⟨b,o,none⟩)) (.agg cs)).run P w= .ok () (w.setCells b o cs.toList):=by
 obtain ⟨⟨d,hu,hd⟩,hi⟩:=hT
 have hst:=run_storeCells_cells (P:=P) b o cs.toList 0 w (fun j hj=>by
  rw [Nat.add_zero]
  have hlt:o+j<cur.size:=by simp at hj;omega
  rw [cell_of hb (Array.getElem?_eq_getElem hlt)]
  rfl) (fun j _=>free_of hb) h1
 cases hq:P.info? t with
 | none=>simp [hq] at hi
 | some i=>
  have hs:cs.size=i.size:=by simp [hq] at hi;omega
  simp [Instr.storeAt,Instr.sureAddr,storeVar,sizeOf,typeInfo,hq,Value.cells,hs,Nat.add_zero] at hst ⊢
  rw [hst]
theorem exec_storeA {ρ:Operand→Value} {dst:Option Tmp} {ty:TypeId} {pos:String} {after:Array Edge} {g:Option (Nat×Bool)} {t:TypeId} {x y:Operand} {b o:Nat} {cs cur:Array Value} {T:TypeId} (hT:AggT P t cs.size) (hx:ρ x= .pointer (some ⟨b,o,none⟩)) (hy:ρ y= .agg cs) (hb:w.heap[b]?=some (.cells cur T (0,0))) (ho:o+cs.size≤cur.size) (h1: ∀v∈cs.toList,v.oneCell'=true):
  (execOp ρ ⟨dst, .store t x y,ty,pos,after,g⟩).run P w= .ok .skip (w.setCells b o cs.toList):=by
 simp only [execOp,hx,hy,Sem.run_bind,run_storeA hT hb ho h1,Result.andThen,Sem.run_pure]
theorem LOut.shape {v:Value} {xs:List α} (h:LOut en k e B w v xs): ∃a n c,v= .slice a n c:=by
 rcases h.own.2 with ⟨hv,_⟩|⟨g,cap,cur,hv,_⟩
 ·exact ⟨_,_,_,hv⟩
 ·exact ⟨_,_,_,hv⟩
theorem LOut.whole {b off n cap:Nat} {xs:List α} (h:LOut en k e B w (.slice (some ⟨b,off,none⟩) n cap) xs):off=0∧n=xs.length∧n≤cap∧cap≤maxLen∧ ∃cur,w.heap[b]?=some (.cells cur e (0,0))∧cur.size=cap*k∧cur.toList.take (n*k)=xs.flatMap en∧(xs.flatMap en).length=n*k:=by
 rcases h.own with ⟨hl,⟨hv,_⟩|⟨g,c,cur,hv,_,hg,h1,h2,h3,h4⟩⟩
 ·cases hv
 ·obtain ⟨⟨rfl,rfl⟩,hn,rfl⟩:(b=g∧off=0)∧n=xs.length∧cap=c:=by simpa using hv
  subst hn
  exact ⟨rfl,rfl,h1,h2,cur,hg,h3,h4,hl⟩
theorem LOut.of_cells {b n cap:Nat} {xs:List α} {cur:Array Value} (hn:n=xs.length) (hb:w.heap[b]?=some (.cells cur e (0,0))) (h1:n≤cap) (h2:cap≤maxLen) (h3:cur.size=cap*k) (h4:cur.toList.take (n*k)=xs.flatMap en) (hl:(xs.flatMap en).length=n*k) (hB:B≤b) (hBw:B≤w.heap.size):LOut en k e B w (.slice (some ⟨b,0,none⟩) n cap) xs:=by
 subst hn
 exact ⟨⟨hl, .inr ⟨b,cap,cur,rfl,Nat.zero_le _,hb,h1,h2,h3,h4⟩⟩,fun r hr=>by cases hr;exact hB,hBw⟩
theorem flat_len (hen: ∀x,(en x).length=k): ∀xs:List α,(xs.flatMap en).length=xs.length*k
 | []=>by simp
 | x::xs=>by rw [List.flatMap_cons,List.length_append,hen,flat_len hen xs,List.length_cons,Nat.add_mul,Nat.one_mul,Nat.add_comm]
theorem flat_take (hen: ∀x,(en x).length=k): ∀(xs:List α) (i:Nat),(xs.take i).flatMap en=(xs.flatMap en).take (i*k)
 | [],i=>by simp
 | x::xs,0=>by simp
 | x::xs,i+1=>by
  rw [List.take_succ_cons,List.flatMap_cons,List.flatMap_cons,flat_take hen xs i,List.take_append,hen,show (i+1)*k-k=i*k by rw [Nat.add_mul,Nat.one_mul,Nat.add_sub_cancel],List.take_of_length_le (l:=en x) (by rw [hen,Nat.add_mul,Nat.one_mul];exact Nat.le_add_left _ _)]
theorem LOut.setA (hen: ∀x,(en x).length=k) {b n cap:Nat} {xs:List α} (h:LOut en k e B w (.slice (some ⟨b,0,none⟩) n cap) xs) {i:Nat} (hi:i<xs.length) (x:α):
  LOut en k e B (w.setCells b (i*k) (en x)) (.slice (some ⟨b,0,none⟩) n cap) (xs.set i x):=by
 obtain ⟨_,hn,h1,h2,cur,hb,h3,h4,hl⟩:=h.whole
 have hB:B≤b:=h.lo b rfl
 have hik:i*k+k≤n*k:=by
  have:(i+1)*k≤n*k:=Nat.mul_le_mul_right k (by omega)
  rw [Nat.add_mul,Nat.one_mul] at this
  exact this
 have hnc:n*k≤cap*k:=Nat.mul_le_mul_right k h1
 have hl2:((xs.set i x).flatMap en).length=n*k:=by rw [flat_len hen,List.length_set,hn]
 refine LOut.of_cells (by rw [List.length_set];exact hn) (heap_setCells_at _ _ _ _ hb) h1 h2 (by rw [setMany_size];exact h3) ?_ hl2 hB (by rw [size_setCells];exact h.le)
 apply List.ext_getElem?
 intro j
 by_cases hj:j<n*k
 ·rw [List.getElem?_take_of_lt hj]
  have hjc:j<cur.size:=by omega
  rw [show (setMany cur (i*k) (en x)).toList[j]?=(setMany cur (i*k) (en x))[j]? by simp,setMany_get _ _ _ _ hjc,hen]
  have hold:cur[j]?=(xs.flatMap en)[j]?:=by
   rw [←h4,List.getElem?_take_of_lt hj];simp
  have hsplit:(xs.set i x).flatMap en=(xs.take i).flatMap en++(en x++(xs.drop (i+1)).flatMap en):=by
   rw [List.set_eq_take_append_cons_drop,if_pos hi,List.flatMap_append,List.flatMap_cons]
  have hsplit0:xs.flatMap en=(xs.take i).flatMap en++(en xs[i]++(xs.drop (i+1)).flatMap en):=by
   conv=>lhs;rw [←List.take_append_drop i xs,List.drop_eq_getElem_cons hi]
   rw [List.flatMap_append,List.flatMap_cons]
  have hlt:((xs.take i).flatMap en).length=i*k:=by rw [flat_len hen,List.length_take,Nat.min_eq_left (by omega)]
  rw [hsplit]
  by_cases c1:j<i*k
  ·rw [if_neg (by omega),hold,hsplit0,List.getElem?_append_left (by omega),List.getElem?_append_left (by omega)]
  ·by_cases c2:j<i*k+k
   ·rw [if_pos (by omega),List.getElem?_append_right (by omega),hlt,List.getElem?_append_left (by rw [hen];omega)]
   ·rw [if_neg (by omega),hold,hsplit0,List.getElem?_append_right (by omega),List.getElem?_append_right (by rw [hen];omega),List.getElem?_append_right (by omega),List.getElem?_append_right (by rw [hen];omega),hen,hen]
 ·rw [List.getElem?_eq_none (by rw [List.length_take];omega),List.getElem?_eq_none (by omega)]
theorem LOut.cut (hen: ∀x,(en x).length=k) {b n cap:Nat} {xs:List α} (h:LOut en k e B w (.slice (some ⟨b,0,none⟩) n cap) xs) {i:Nat} (hi:i≤xs.length) (vs:List Value):
  LOut en k e B (w.setCells b (i*k) vs) (.slice (some ⟨b,0,none⟩) i cap) (xs.take i):=by
 obtain ⟨_,hn,h1,h2,cur,hb,h3,h4,hl⟩:=h.whole
 have hB:B≤b:=h.lo b rfl
 have hik:i*k≤n*k:=Nat.mul_le_mul_right k (by omega)
 have hnc:n*k≤cap*k:=Nat.mul_le_mul_right k h1
 have hlen:(xs.take i).length=i:=by rw [List.length_take,Nat.min_eq_left hi]
 have hl2:((xs.take i).flatMap en).length=i*k:=by rw [flat_len hen,hlen]
 refine LOut.of_cells hlen.symm (heap_setCells_at _ _ _ _ hb) (by omega) h2 (by rw [setMany_size];exact h3) ?_ hl2 hB (by rw [size_setCells];exact h.le)
 rw [flat_take hen]
 apply List.ext_getElem?
 intro j
 by_cases hj:j<i*k
 ·rw [List.getElem?_take_of_lt hj,List.getElem?_take_of_lt hj]
  rw [show (setMany cur (i*k) vs).toList[j]?=(setMany cur (i*k) vs)[j]? by simp,setMany_get _ _ _ _ (by omega),if_neg (by omega)]
  rw [←h4,List.getElem?_take_of_lt (by omega)]
  simp
 ·rw [List.getElem?_eq_none (by rw [List.length_take];omega),List.getElem?_eq_none (by rw [List.length_take];omega)]
theorem zeroCells_len (zs:Array Value) (n:Nat):(Builtin.zeroCells zs n).size=n*zs.size:=by
 unfold Builtin.zeroCells
 simp
theorem run_clearSl {t ty:TypeId} {z:Value} (ht:P.underlying t=some (.slice e)) (hz: ∀w,(zeroValue e).run P w= .ok z w) (hzs:z.cells.size=k) (hz1: ∀n, ∀v∈(Builtin.zeroCells z.cells n).toList,v.oneCell'=true) {b o n c:Nat} {cur:Array Value} {T:TypeId} (hb:w.heap[b]?=some (.cells cur T (0,0))) (ho:o+n*k≤cur.size) (hn:0<n):
  (Builtin.clear_ #[t] ty #[.slice (some ⟨b,o,none⟩) n c]).run P w= .ok (.tuple #[]) (w.setCells b o (Builtin.zeroCells z.cells n).toList):=by
 have hst:=run_storeCells_cells (P:=P) b o (Builtin.zeroCells z.cells n).toList 0 w (fun j hj=>by
  rw [Nat.add_zero]
  have hlt:o+j<cur.size:=by rw [Array.length_toList,zeroCells_len,hzs] at hj;omega
  rw [cell_of hb (Array.getElem?_eq_getElem hlt)]
  rfl) (fun j _=>free_of hb) (hz1 n)
 simp only [Nat.add_zero] at hst
 obtain ⟨m,rfl⟩: ∃m,n=m+1:=⟨n-1,by omega⟩
 simp [Builtin.clear_,run_underlying ht,hz,hst]
end
variable {P:Program} {ops:Array Oper} {rest:List Oper} {a:Act} {w:World} {Q:Exit→Act→World→Prop}
theorem foldl_lay (off:Nat): ∀(v:List Value) (j:Nat) (cells:List Value),off+j+v.length≤cells.length→
  ((v.zipIdx j).foldl (fun (cs:Array Value) (x:Value×Nat)=>cs.setIfInBounds (off+x.2) x.1) cells.toArray)=(cells.take (off+j)++v++cells.drop (off+j+v.length)).toArray
 | [],j,cells,_=>by simp
 | x::v,j,cells,h=>by
  rw [List.length_cons] at h
  have e:cells.toArray.setIfInBounds (off+j) x=(cells.set (off+j) x).toArray:=by simp
  simp only [List.zipIdx_cons,List.foldl_cons,e]
  rw [foldl_lay off v (j+1) _ (by rw [List.length_set];omega)]
  congr 1
  have h1:(cells.set (off+j) x).take (off+(j+1))=cells.take (off+j)++ [x]:=by
   rw [←Nat.add_assoc,List.take_add_one,List.take_set_of_le (Nat.le_refl _),List.getElem?_set_self (by omega)]
   rfl
  rw [h1,List.drop_set_of_lt (by omega),List.length_cons]
  simp only [List.append_assoc,List.cons_append,List.nil_append]
  rw [show off+(j+1)+v.length=off+j+(v.length+1) by omega]
theorem fill_all {k:Nat} {cells cs:Array Value} {place:Nat→Option (Nat×Nat)} (hp:place 0=some (0,k)) (hc:cells.size=k) (hs:cs.size=k):Instr.fill place cells [(0, .agg cs)]=some cs:=by
 have h:=foldl_lay 0 cs.toList 0 cells.toList (by simp;omega)
 have e:((Value.agg cs).cells.zipIdx.foldl (fun (xs:Array Value) (x:Value×Nat)=>xs.setIfInBounds (0+x.2) x.1) cells)=cs:=by
  rw [←Array.foldl_toList,Array.toList_zipIdx]
  refine Eq.trans h ?_
  apply Array.ext'
  simp [List.drop_of_length_le,hc,hs]
 have hsz:(Value.agg cs).cells.size=k:=hs
 simp only [Instr.fill,hp]
 rw [if_neg (by simp [hsz,hc])]
 exact congrArg some e
theorem exec_arrayAt {ρ:Operand→Value} {dst:Option Tmp} {ty:TypeId} {pos:String} {after:Array Edge} {g:Option (Nat×Bool)} {t e:TypeId} {n len cap:Nat} {ao:Option Addr} {x:Operand} (hu:P.underlying t=some (.array n e)) (hn:n≤len) (hx:ρ x= .slice ao len cap):
  (execOp ρ ⟨dst, .sliceToArrayPointer t x,ty,pos,after,g⟩).run P w= .ok (.value (.pointer ao)) w:=by
 simp only [execOp,hx,Sem.run_bind,run_arrayAt w t e n ao len cap hu hn,Result.andThen_ok,Sem.run_pure]
theorem exec_buildA {ρ:Operand→Value} {dst:Option Tmp} {ty:TypeId} {pos:String} {after:Array Edge} {g:Option (Nat×Bool)} {t:TypeId} {parts:Array (Nat×Operand)} {vals:List (Nat×Value)} {cells:Array Value} (hp:parts.toList.map (fun x=>(x.1,ρ x.2))=vals) (hb:P.built t vals=some cells):
  (execOp ρ ⟨dst, .build t parts,ty,pos,after,g⟩).run P w= .ok (.value (.agg cells)) w:=
 exec_build (vals:=vals.toArray) hp (run_build w t _ cells hb)
theorem exec_buildSliceA {ρ:Operand→Value} {dst:Option Tmp} {ty:TypeId} {pos:String} {after:Array Edge} {g:Option (Nat×Bool)} {t e:TypeId} {k:Nat} {cells:Array Value} {x:Operand} (hu:P.underlying t=some (.slice e)) (hi:(P.info? e).map (fun i=>(i.zero.map (fun z=>z.cells.size),i.size))=some (some k,k)) (hk:0<k) (hk2:k≤1000) (hc:cells.size=k) (hx:ρ x= .agg cells):
  (execOp ρ ⟨dst, .buildSlice t 1 #[(0,x)],ty,pos,after,g⟩).run P w= .ok (.value (.slice (some ⟨w.heap.size,0,none⟩) 1 1)) (w.alloc (.cells cells e)):=by
 cases hq:P.info? e with
 | none=>simp [hq] at hi
 | some i=>
  cases hz:i.zero with
  | none=>simp [hq,hz] at hi
  | some z=>
   simp [hq,hz] at hi
   obtain ⟨h1,h2⟩:=hi
   refine exec_buildSlice (vals:= #[(0, .agg cells)]) (by simp [hx]) (run_buildSlice w t e 1 _ cells i z hu hq hz (by omega) (by omega) ?_)
   exact fill_all (k:=k) (by simp [h2]) (by simp [h2]) hc
structure AggZ (P:Program) (t:TypeId) (n:Nat):Prop extends AggT P t n where
 zero: ∃i z,P.info? t=some i∧i.zero=some z∧z.cells.size=n
theorem wpList_append1Y {α:Type} {en:α→List Value} {k:Nat} {e t:TypeId} (E:ElT P t e k en) {B:Nat} {w wx:World} {v:Value} {xs:List α} (h:LOut en k e B w v xs) (x:α) (hsz:xs.length≤1000000000) {dst:Option Tmp} {ty:TypeId} {pos:String} {after:Array Edge} {s y:Operand}
  (hwx:wx=w.alloc (.cells (en x).toArray e)) (hs:a.eval s=v) (hy:a.eval y= .slice (some ⟨w.heap.size,0,none⟩) 1 1)
  (hk: ∀v' w',LOut en k e B w' v' (xs++ [x])→Mod (fun b=>v.ownBlock=some b) w w'→(v'.ownBlock=v.ownBlock∨ ∃r,v'.ownBlock=some r∧w.heap.size≤r)→wpList P ops Q rest (a.put dst v') w'):
  wpList P ops Q ({dst:=dst,op:= .call {callee:= .builtin .append,args:= #[s,y],argTypes:= #[t,t]},type:=ty,pos:=pos,after:=after,guard:=none}::rest) a wx:=by
 subst hwx
 obtain ⟨v',w',hr,ho,hg,hb⟩:=run_appendMX E (ty:=ty) (h.below (((Below.refl _ _).alloc (Nat.le_refl _) _):Below w.heap.size w (w.alloc (.cells (en x).toArray e)))) (LSl.lit E.len e) (by simp;omega)
 refine wpList_exec rfl (v:=v') (w':=w') ?_ (hk v' w' ho (((Mod.refl _ w).alloc _).grown hg fun k hk _=>hk) (hb.imp id fun hb=>⟨_,hb,by simp⟩))
 simp only [execOp,resolve,invoke,builtin,Sem.run_bind,Sem.run_pure,Result.andThen_ok,List.map_toArray,List.map_cons,List.map_nil,hs,hy,hr]
theorem exec_append1Y {α:Type} {en:α→List Value} {k:Nat} {e t ty:TypeId} (E:ElT P t e k en) {B:Nat} {w:World} {v:Value} {xs:List α} (h:LOut en k e B w v xs) (x:α) (hsz:xs.length≤1000000000):
  ∃v' w',(∀(ρ:Operand→Value) (dst:Option Tmp) (pos:String) (after:Array Edge) (g:Option (Nat×Bool)) (s y:Operand),ρ s=v→ρ y= .slice (some ⟨w.heap.size,0,none⟩) 1 1→
   (execOp ρ ⟨dst, .call {callee:= .builtin .append,args:= #[s,y],argTypes:= #[t,t]},ty,pos,after,g⟩).run P (w.alloc (.cells (en x).toArray e))= .ok (.value v') w')∧
   LOut en k e B w' v' (xs++ [x])∧Mod (fun b=>v.ownBlock=some b) w w'∧(v'.ownBlock=v.ownBlock∨ ∃r,v'.ownBlock=some r∧w.heap.size≤r):=by
 obtain ⟨v',w',hr,ho,hg,hb⟩:=run_appendMX E (ty:=ty) (h.below (((Below.refl _ _).alloc (Nat.le_refl _) _):Below w.heap.size w (w.alloc (.cells (en x).toArray e)))) (LSl.lit E.len e) (by simp;omega)
 refine ⟨v',w',fun ρ dst pos after g s y hs hy=> ?_,ho,((Mod.refl _ w).alloc _).grown hg fun k hk _=>hk,hb.imp id fun hb=>⟨_,hb,by simp⟩⟩
 simp only [execOp,resolve,invoke,builtin,Sem.run_bind,Sem.run_pure,Result.andThen_ok,List.map_toArray,List.map_cons,List.map_nil,hs,hy,hr]
theorem exec_makeA {α:Type} {en:α→List Value} {k:Nat} {e t:TypeId} (E:ElT P t e k en) (x0:α) (hz:(P.info? e).map (fun i=>i.zero.map (·.cells))=some (some (en x0).toArray)) (n:Nat) (hn:n≤1000000000) (w:World):
  ∃w',(∀(ρ:Operand→Value) (dst:Option Tmp) (ty:TypeId) (pos:String) (after:Array Edge) (g:Option (Nat×Bool)) (x y:Operand),ρ x= .int .i64 n→ρ y= .int .i64 n→
   (execOp ρ ⟨dst, .makeSlice t x y,ty,pos,after,g⟩).run P w= .ok (.value (.slice (some ⟨w.heap.size,0,none⟩) n n)) w')∧LOut en k e w.heap.size w' (.slice (some ⟨w.heap.size,0,none⟩) n n) (List.replicate n x0)∧Below w.heap.size w w'∧w'.heap.size=w.heap.size+1:=by
 cases hq:P.info? e with
 | none=>simp [hq] at hz
 | some i=>
  cases hzz:i.zero with
  | none=>simp [hq,hzz] at hz
  | some z=>
   have hzc:z.cells=(en x0).toArray:=by simpa [hq,hzz] using hz
   have hI:=E.info
   simp only [hq,hzz,Option.map_some] at hI
   obtain ⟨_,hI⟩:=Prod.mk.inj (Option.some.inj hI)
   obtain ⟨hsize,hby⟩:=Prod.mk.inj hI
   have hby':i.bytes≤1000:=of_decide_eq_true hby
   have hpos:=E.pos
   have hb:i.bytes*n≤281474976710656:=by
    have:i.bytes*n≤1000*1000000000:=Nat.mul_le_mul hby' hn
    omega
   have hb':(i.bytes:Int)*(n:Int)≤281474976710656:=by
    have h:((i.bytes*n:Nat):Int)≤281474976710656:=by omega
    rwa [Int.natCast_mul] at h
   have hr:=run_make (P:=P) w t e i z E.sl hq hzz .i64 .i64 n n (by omega) (Int.le_refl _) hb' (by omega)
   simp only [Int.toNat_natCast,hsize] at hr
   refine ⟨w.alloc (.cells (madeCells z.cells (n*k)) e),fun ρ dst ty pos after g x y hx hy=> ?_,?_,(Below.refl _ _).alloc (Nat.le_refl _) _,by simp⟩
   ·simp only [execOp,hx,hy,Sem.run_bind,hr,Result.andThen_ok,Sem.run_pure]
   ·refine LOut.of_cells (cur:=madeCells z.cells (n*k)) (by rw [List.length_replicate]) heap_alloc_at (Nat.le_refl _) (by unfold maxLen;omega) (size_madeCells _ _) ?_ (by rw [len_flatMap E.len,List.length_replicate]) (Nat.le_refl _) (by simp)
    have hl:=len_flatMap E.len (List.replicate n x0)
    rw [List.length_replicate] at hl
    apply List.ext_getElem?
    intro j
    rw [List.take_of_length_le (by simp [size_madeCells])]
    by_cases hj:j<n*k
    ·have hdm:j/k*k+j %k=j:=by rw [Nat.mul_comm];exact Nat.div_add_mod j k
     have hjk:j/k<n:=Nat.div_lt_of_lt_mul (by rw [Nat.mul_comm];exact hj)
     have hm:j %k<k:=Nat.mod_lt _ hpos
     have h1:=get_flatMap E.len (List.replicate n x0) (j/k) (j %k) x0 (by simp [hjk]) hm
     rw [hdm] at h1
     rw [h1]
     have hzs:z.cells.size=k:=by rw [hzc];simp [E.len]
     have hm':j %k<(en x0).length:=by rw [E.len];exact hm
     have hg:(madeCells z.cells (n*k))[j]?=some (z.cells[j %z.cells.size]!):=by simp [madeCells,hj]
     rw [Array.getElem?_toList,hg,hzs,List.getElem?_eq_getElem hm',hzc]
     simp [hm']
    ·rw [List.getElem?_eq_none (by simp [size_madeCells];omega),List.getElem?_eq_none (by rw [hl];omega)]
theorem LOut.lies {α:Type} {en:α→List Value} {k:Nat} {e:TypeId} (hen: ∀x,(en x).length=k) {B:Nat} {r n cap:Nat} {xs:List α} (h:LOut en k e B w (.slice (some ⟨r,0,none⟩) n cap) xs) {i:Nat} {x:α} (hi:xs[i]?=some x):Lies w r (i*k) (en x).toArray:=by
 rcases h.own.2 with ⟨hv,h0⟩|⟨g,cap,cur,hv,_,hg,hn,hm,hs,ht⟩
 ·cases hv
 ·cases hv
  intro j hj
  have hj':j<k:=by simpa [hen] using hj
  refine cell_of hg ?_
  have h1:=get_flatMap hen xs i j x hi hj'
  rw [←ht,List.getElem?_take] at h1
  split at h1
  ·rw [Array.getElem?_toList] at h1
   rw [h1]
   simp
  ·rw [List.getElem?_eq_getElem (by rw [hen];exact hj')] at h1
   cases h1
theorem setMany_all {cur:Array Value} {vs:List Value} (h:cur.size=vs.length):setMany cur 0 vs=vs.toArray:=by
 apply Array.ext'
 apply List.ext_getElem?
 intro i
 rw [Array.getElem?_toList]
 by_cases hi:i<cur.size
 ·rw [setMany_get vs 0 cur i hi,if_pos ⟨Nat.zero_le _,by omega⟩]
  simp
 ·rw [Array.getElem?_eq_none (by rw [setMany_size];omega)]
  simp
  omega
theorem exec_storeB {ρ:Operand→Value} {ty:TypeId} {pos:String} {after:Array Edge} {t:TypeId} {x y:Operand} {b:Nat} {cs cur:Array Value} {T:TypeId} (hT:AggT P t cs.size) (hb:w.heap[b]?=some (.cells cur T (0,0))) (hc:cur.size=cs.size) (h1:cs.all (·.oneCell')=true):
  ∃w',(∀(ρ:Operand→Value) (dst:Option Tmp) (ty:TypeId) (pos:String) (after:Array Edge) (g:Option (Nat×Bool)) (x y:Operand),ρ x= .pointer (some ⟨b,0,none⟩)→ρ y= .agg cs→(execOp ρ ⟨dst, .store t x y,ty,pos,after,g⟩).run P w= .ok .skip w')∧
   w'.heap[b]?=some (.cells cs T (0,0))∧Mod (fun x=>x=b) w w':=by
 have h1': ∀v∈cs.toList,v.oneCell'=true:=fun v hv=>(Array.all_eq_true_iff_forall_mem.1 h1) v (by simpa using hv)
 refine ⟨w.setCells b 0 cs.toList,fun ρ dst ty pos after g x y hx hy=>exec_storeA hT hx hy hb (by omega) h1',?_,Mod.setCells (S:=fun x=>x=b) (fun _=>rfl) _ _ _ (Mod.refl _ _)⟩
 have h:=heap_setCells_at cs.toList 0 w cur hb
 rw [setMany_all (by simpa using hc)] at h
 simpa using h
theorem wpList_storeB {dst:Option Tmp} {ty:TypeId} {pos:String} {after:Array Edge} {t:TypeId} {x y:Operand} {b:Nat} {cs cur:Array Value} {T:TypeId} (hT:AggT P t cs.size) (hx:a.eval x= .pointer (some ⟨b,0,none⟩)) (hy:a.eval y= .agg cs) (hb:w.heap[b]?=some (.cells cur T (0,0))) (hc:cur.size=cs.size) (h1:cs.all (·.oneCell')=true)
  (h: ∀w',w'.heap[b]?=some (.cells cs T (0,0))→Mod (fun x=>x=b) w w'→wpList P ops Q rest (a.put dst undef) w'):wpList P ops Q (⟨dst, .store t x y,ty,pos,after,none⟩::rest) a w:=by
 obtain ⟨w',hr,h2,h3⟩:=exec_storeB (ρ:=a.eval) (ty:=ty) (pos:=pos) (after:=after) (x:=x) (y:=y) hT hb hc h1
 exact wpList_execSkip rfl (hr _ _ _ _ _ _ _ _ hx hy) (h w' h2 h3)
theorem results_cell3 {fn:Func} {t u v:Tmp} {T:TypeId} (h:fn.results= #[.cell t T, .tmp u, .tmp v]) (tmps:Array Value) {P:Program} {w:World} {b o:Nat} {cs:Array Value} (ht:tmps.getD t undef= .pointer (some ⟨b,o,none⟩)) (hT:AggT P T cs.size) (hL:Lies w b o cs):
  (results fn tmps).run P w= .ok (.tuple #[.agg cs,tmps.getD u undef,tmps.getD v undef]) w:=by
 have hl:=run_loadA hT hL
 simp only [Instr.loadAt,Instr.sureAddr,Sem.run_bind,Sem.run_pure,Result.andThen_ok] at hl
 have ht':tmps[t]?.getD undef= .pointer (some ⟨b,o,none⟩):=by rw [←ht];simp
 simp [results,h,ht',asAddr,hl]
theorem exec_mapUpd {κ:Type} [DecidableEq κ] {enc:κ→Value} {K E T m clk:Nat} {L:Ents κ} (hK:KeyOK P K enc) (hT:P.underlying T=some (.map K E)) (hb:w.heap[m]?=some (.map (ents enc L) clk)) (hwf:WF L clk) (k:κ) (v:Value):
  ∃w',(∀(ρ:Operand→Value) (dst:Option Tmp) (ty:TypeId) (pos:String) (after:Array Edge) (g:Option (Nat×Bool)) (x i y:Operand),ρ x= .map (some m)→ρ i=enc k→ρ y=v→(execOp ρ ⟨dst, .mapUpdate T x i y,ty,pos,after,g⟩).run P w= .ok .skip w')∧
   w'.heap[m]?=some (.map (ents enc (upd k v L clk)) (updClk k L clk))∧WF (upd k v L clk) (updClk k L clk)∧Mod (fun x=>x=m) w w':=by
 refine ⟨setObjW w m (.map (ents enc (upd k v L clk)) (updClk k L clk)),fun ρ dst ty pos after g x i y hx hi hy=> ?_,setObjW_at (lt_of_block hb),hwf.upd,setObjW_mod _ _⟩
 have:=exec_mapUpdate (P:=P) (dst:=dst) (ty:=ty) (pos:=pos) (after:=after) (g:=g) (y:=y) hK hT hb hx k hi
 rw [hy] at this
 exact this
theorem wpList_mapUpd {κ:Type} [DecidableEq κ] {enc:κ→Value} {K E T m clk:Nat} {L:Ents κ} (hK:KeyOK P K enc) (hT:P.underlying T=some (.map K E)) (hb:w.heap[m]?=some (.map (ents enc L) clk)) (hwf:WF L clk) (k:κ) (v:Value) {dst:Option Tmp} {ty:TypeId} {pos:String} {after:Array Edge} {x i y:Operand}
  (hx:a.eval x= .map (some m)) (hi:a.eval i=enc k) (hy:a.eval y=v)
  (h: ∀w',w'.heap[m]?=some (.map (ents enc (upd k v L clk)) (updClk k L clk))→WF (upd k v L clk) (updClk k L clk)→Mod (fun x=>x=m) w w'→wpList P ops Q rest (a.put dst undef) w'):wpList P ops Q (⟨dst, .mapUpdate T x i y,ty,pos,after,none⟩::rest) a w:=by
 obtain ⟨w',hr,h1,h2,h3⟩:=exec_mapUpd (P:=P) hK hT hb hwf k v
 exact wpList_execSkip rfl (hr _ _ _ _ _ _ _ _ _ hx hi hy) (h w' h1 h2 h3)
end Go.Tn
