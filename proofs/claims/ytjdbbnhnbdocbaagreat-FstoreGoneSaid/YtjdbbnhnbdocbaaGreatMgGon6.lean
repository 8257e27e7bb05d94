import Derived.Test.YtjdbbnhnbdocbaaGreatMgGon5
import Derived.Laws.AppendOwn
import Derived.Maps.AppendAt
import Derived.Laws.StructEq
import Derived.ChangeKeysEq
import Derived.Test.YtjdbbnhnbdocbaaGreatMgGon3
import Derived.Test.YtjdbbnhnbdocbaaGreatMgGon4
import Derived.Test.YtjdbbnhnbdocbaaGreatRows
import Derived.Test.YtjdbbnhnbdocbaaGreatMgGon2
import Derived.Laws.RangeAny
import Derived.WalkKit
import Derived.BigQuiet
import Derived.Laws.Shifts
namespace Go.Proofs.YtjdbbnhnbdocbaaGreat
open Go.RowKit Go.Tn
section
variable {P:Program} {e t ti:TypeId}
theorem zeroCells_one (z:Value) (n:Nat):Builtin.zeroCells #[z] n=(List.replicate n z).toArray:=by
 unfold Builtin.zeroCells
 apply Array.ext
 ·simp
 ·intro i h1 h2
  simp [Nat.mod_one]
theorem rep_flatMap {α:Type} {en:α→List Value} {z0:Value} {x0:α} (hx0:en x0= [z0]): ∀n:Nat,(List.replicate n x0).flatMap en=List.replicate n z0
 | 0=>rfl
 | n+1=>by rw [List.replicate_succ,List.flatMap_cons,hx0,rep_flatMap hx0 n];rfl
set_option maxHeartbeats 1000000 in
theorem run_appendZ {α:Type} {en:α→List Value} {z0:Value} (E:ElT P t e 1 en) (hti:P.underlying ti=some (.int .i64)) (x0:α) (hx0:en x0= [z0]) (hz0:(P.info? e).map (fun i=>i.zero.map (·.cells))=some (some #[z0])) {ty:TypeId} {B:Nat} {w:World} {v:Value} {xs:List α} (h:LOut en 1 e B w v xs) (n:Nat) (hsz:xs.length+n≤100000):
  ∃v' w',(Builtin.append_ #[t,ti] ty #[v, .int .i64 n]).run P w= .ok v' w'∧LOut en 1 e B w' v' (xs++List.replicate n x0)∧w.grownBy w' v.ownBlock∧(v'.ownBlock=v.ownBlock∨v'.ownBlock=some w.heap.size):=by
 obtain ⟨i,hi,hI⟩: ∃i,P.info? e=some i∧(i.zero.map (fun z=>z.cells.size),i.size,decide (i.bytes≤1000))=(some 1,1,true):=by
  have:=E.info
  cases hq:P.info? e with
  | none=>simp [hq] at this
  | some i=>exact ⟨i,rfl,by simpa [hq] using this⟩
 obtain ⟨-,hI⟩:=Prod.mk.inj hI
 obtain ⟨hsize,hby⟩:=Prod.mk.inj hI
 obtain ⟨z,hz,hzc⟩: ∃z,i.zero=some z∧z.cells= #[z0]:=by
  rw [hi] at hz0
  cases hq:i.zero with
  | none=>simp [hq] at hz0
  | some z=>exact ⟨z,rfl,by simpa [hq] using hz0⟩
 have hby':i.bytes≤1000:=of_decide_eq_true hby
 have hw:IntKind.i64.wrap (n:Int)=n:=by rw [IntKind.wrap_i64];omega
 have hl0:¬ ((n:Int)<0):=by omega
 have hmul:n*i.bytes≤100000*1000:=Nat.mul_le_mul (by omega) hby'
 have hl1:¬ ((2:Int) ^ 48<(n:Int)*(i.bytes:Int)):=by
  have:((n*i.bytes:Nat):Int)≤((100000*1000:Nat):Int):=Int.ofNat_le.2 hmul
  rw [Int.natCast_mul] at this
  omega
 have hl1':¬ ((281474976710656:Int)<(n:Int)*(i.bytes:Int)):=by
  have:((n*i.bytes:Nat):Int)≤((100000*1000:Nat):Int):=Int.ofNat_le.2 hmul
  rw [Int.natCast_mul] at this
  omega
 have hfm:(xs++List.replicate n x0).flatMap en=xs.flatMap en++List.replicate n z0:=by rw [List.flatMap_append,rep_flatMap hx0]
 have hxl:(xs.flatMap en).length=xs.length:=by rw [len_flatMap E.len,Nat.mul_one]
 have hfl:(xs++List.replicate n x0).length=xs.length+n:=by simp
 have h63:xs.length+n≤maxLen:=by unfold maxLen;omega
 have hbyt:(xs.length+n)*i.bytes≤140737488355328:=by
  have:(xs.length+n)*i.bytes≤100000*1000:=Nat.mul_le_mul hsz hby'
  omega
 have hone:z0.oneCell'=true:=E.one x0 z0 (by rw [hx0];exact List.mem_singleton.2 rfl)
 have grown: ∀old:Nat,old<xs.length+n→ ∀row:Option Nat,LOut en 1 e B (w.drew.alloc (.cells ((xs.flatMap en).toArray++(List.replicate n z0).toArray++Builtin.zeroCells z.cells (grownCap w (xs.length+n) old e-(xs.length+n))) e)) (.slice (some ⟨w.heap.size,0,none⟩) (xs.length+n) (grownCap w (xs.length+n) old e)) (xs++List.replicate n x0)∧
   w.grownBy (w.drew.alloc (.cells ((xs.flatMap en).toArray++(List.replicate n z0).toArray++Builtin.zeroCells z.cells (grownCap w (xs.length+n) old e-(xs.length+n))) e)) row:=by
  intro old ho row
  have hge:=grownCap_ge w (xs.length+n) old e
  have hcm:grownCap w (xs.length+n) old e≤maxLen:=grownCap_le_maxLen w (xs.length+n) old e h63
  refine ⟨⟨⟨by rw [hfm,hfl,List.length_append,hxl,List.length_replicate,Nat.mul_one], .inr ⟨w.heap.size,_,_,by rw [hfl],Nat.zero_le _,heap_alloc_new w.drew _,by rw [hfl];exact hge,hcm,?_,?_⟩⟩,fun r hr=> ?_,?_⟩,⟨rfl,rfl,rfl,by simp,fun k hk _=>heap_alloc_old w.drew _ hk⟩⟩
  ·rw [hzc]
   simp only [Array.size_append,List.size_toArray,size_zeroCells,hxl,List.length_replicate]
   simp
   omega
  ·rw [hfm,hfl]
   simp only [Array.toList_append,List.append_assoc,Nat.mul_one]
   rw [←List.append_assoc]
   have:(xs.flatMap en++List.replicate n z0).length=xs.length+n:=by rw [List.length_append,hxl,List.length_replicate]
   rw [←this]
   exact List.take_left
  ·cases hr
   exact h.le
  ·have:=h.le
   simp
   omega
 have hnl:(List.replicate n z0).length=n:=List.length_replicate
 have hw0:IntKind.i64.wrap 0=0:=by rw [IntKind.wrap_i64];rfl
 have hnat:((n:Int)).toNat=n:=Int.toNat_natCast n
 rcases h.own.2 with ⟨hv,h0⟩|⟨g,cap,cur,hv,hbg,hg,hnc,hcm,hcs,htake⟩
 ·have hx:xs= []:=List.eq_nil_of_length_eq_zero h0
  subst hx
  subst hv
  by_cases hm:n=0
  ·subst hm
   refine ⟨.slice none 0 0,w,?_,by simpa using h,World.grownBy.refl _ _, .inl rfl⟩
   simp [Builtin.append_,run_underlying E.sl,run_underlying hti,sizeOf,typeInfo,zeroValue,hi,hz,Builtin.lenOf,Builtin.firstCells,asInt,asIntOf,hw0]
  ·have hgr:=grown 0 (by simp;omega) (Value.ownBlock (.slice none 0 0))
   have hfit:Builtin.nextslicecap (0+n) 0*i.bytes≤281474976710656:=growslice_fits (by omega) (by simpa using hbyt)
   simp only [List.length_nil,Nat.zero_add,List.nil_append,List.flatMap_nil,Array.empty_append] at hgr hfit ⊢
   refine ⟨_,_,?_,hgr.1,hgr.2,Or.inr rfl⟩
   have hn:¬ (n≤0):=by omega
   have h63':¬ (9223372036854775807<(n:Int)):=by omega
   have h48':¬ (281474976710656<Builtin.nextslicecap n 0*i.bytes):=by omega
   simp [Builtin.append_,run_underlying E.sl,run_underlying hti,sizeOf,typeInfo,zeroValue,hi,hz,hzc,hsize,Builtin.lenOf,Builtin.firstCells,loadCells,loadCellsFrom,asInt,asIntOf,hw,hnat,hn,hm,hl0,hl1',h63',h48',Question.forced,newRow,grownCap,zeroCells_one]
 ·subst hv
  by_cases hroom:xs.length+n≤cap
  ·have hfit:xs.length+(List.replicate n z0).length≤cur.size:=by rw [hnl,hcs];omega
   have hst:=run_storeCells_at P g xs.length e (List.replicate n z0) 0 cur w hg (by simpa using hfit) (fun u hu=>by rw [List.eq_of_mem_replicate hu];exact hone)
   simp only [Nat.add_zero] at hst
   refine ⟨.slice (some ⟨g,0,none⟩) (xs.length+n) cap,w.setRow g (cur.toList.take xs.length++List.replicate n z0++cur.toList.drop (xs.length+(List.replicate n z0).length)).toArray,?_,⟨⟨by rw [hfm,hfl,List.length_append,hxl,hnl,Nat.mul_one], .inr ⟨g,cap,_,by rw [hfl],hbg,setRow_heap w g cur _ e _ hg,by rw [hfl];exact hroom,hcm,?_,?_⟩⟩,fun r hr=>h.lo r hr,?_⟩,⟨rfl,rfl,rfl,by simp,fun k _ hk=>setRow_other w g k _ (fun e=>hk (by simp [Value.ownBlock,e]))⟩, .inl rfl⟩
   ·by_cases hm:n=0
    ·subst hm
     simp [Builtin.append_,run_underlying E.sl,run_underlying hti,sizeOf,typeInfo,zeroValue,hi,hz,hzc,hsize,Builtin.lenOf,asInt,asIntOf,hw0,hnc,zeroCells_one,Addr.add_lit]
     have hst':=hst
     simp [Addr.add_lit] at hst'
     rw [hst']
     rfl
    ·simp [Builtin.append_,run_underlying E.sl,run_underlying hti,sizeOf,typeInfo,zeroValue,hi,hz,hzc,hsize,Builtin.lenOf,asInt,asIntOf,hw,hnat,hm,hl0,hl1',hroom,zeroCells_one,Addr.add_lit,hst]
   ·simp only [List.size_toArray,List.length_append,List.length_take,List.length_drop,Array.length_toList,hnl]
    omega
   ·have hlen:(xs.flatMap en++List.replicate n z0).length=xs.length+n:=by rw [List.length_append,hxl,hnl]
    rw [hfm,hfl,Nat.mul_one, ←hlen]
    rw [Nat.mul_one] at htake
    rw [htake]
    exact List.take_left
   ·have:=h.le
    simpa using this
  ·have holds: ∀j u,(xs.flatMap en)[j]?=some u→w.cell? ((⟨g,0,none⟩:Addr).add j)=some u:=h.own.cells (g:=g) rfl
   have hfo:=run_firstCells_some (P:=P) w.drew 1 xs.length ⟨g,0,none⟩ xs.length cap (xs.flatMap en) (by rw [hxl,Nat.mul_one]) (by simpa using holds)
   have hgr:=grown cap (by omega) (Value.ownBlock (.slice (some ⟨g,0,none⟩) xs.length cap))
   have hfit:Builtin.nextslicecap (xs.length+n) cap*i.bytes≤281474976710656:=growslice_fits (by omega) hbyt
   refine ⟨_,_,?_,hgr.1,hgr.2,Or.inr rfl⟩
   have hm:¬ (n=0):=by omega
   have h63':¬ (9223372036854775807<(xs.length:Int)+(n:Int)):=by omega
   have h48':¬ (281474976710656<Builtin.nextslicecap (xs.length+n) cap*i.bytes):=by omega
   simp [Builtin.append_,run_underlying E.sl,run_underlying hti,sizeOf,typeInfo,zeroValue,hi,hz,hzc,hsize,Builtin.lenOf,asInt,asIntOf,hw,hnat,hroom,hm,hl0,hl1',h63',h48',Question.forced,hfo,newRow,grownCap,zeroCells_one]
theorem wpList_appendZ {ops:Array Oper} {rest:List Oper} {a:Act} {Q:Exit→Act→World→Prop} {α:Type} {en:α→List Value} {z0:Value} (E:ElT P t e 1 en) (hti:P.underlying ti=some (.int .i64)) (x0:α) (hx0:en x0= [z0]) (hz0:(P.info? e).map (fun i=>i.zero.map (·.cells))=some (some #[z0])) {B:Nat} {w:World} {v:Value} {xs:List α} (h:LOut en 1 e B w v xs) (n:Nat) (hsz:xs.length+n≤100000) {dst:Option Tmp} {ty:TypeId} {pos:String} {after:Array Edge} {s y:Operand}
  (hs:a.eval s=v) (hy:a.eval y= .int .i64 n)
  (hk: ∀v' w',LOut en 1 e B w' v' (xs++List.replicate n x0)→Below B w w'→wpList P ops Q rest (a.put dst v') w'):
  wpList P ops Q ({dst:=dst,op:= .call {callee:= .builtin .append,args:= #[s,y],argTypes:= #[t,ti]},type:=ty,pos:=pos,after:=after,guard:=none}::rest) a w:=by
 obtain ⟨v',w',hr,ho,hg,_⟩:=run_appendZ E hti x0 hx0 hz0 (ty:=ty) h n hsz
 refine wpList_exec rfl (v:=v') (w':=w') ?_ (hk v' w' ho ((Below.refl B w).grown hg h.le h.lo))
 simp only [execOp,resolve,invoke,builtin,Sem.run_bind,Sem.run_pure,Result.andThen_ok,List.map_toArray,List.map_cons,List.map_nil,hs,hy,hr]
theorem eqItems_all {w:World} {d:Nat} {c:Nat} {xs ys:Array Value} {r:Nat→Bool}: ∀is:List Nat,(∀i∈is, ∃a b,(part e xs (i*c)).run P w= .ok a w∧(part e ys (i*c)).run P w= .ok b w∧(Op.equalIn d e a b).run P w= .ok (r i) w)→(Op.eqItems d e c xs ys is).run P w= .ok (is.all r) w
 | [],_=>rfl
 | i::is,h=>by
  obtain ⟨a,b,h1,h2,h3⟩:=h i (List.mem_cons_self ..)
  have ih:=eqItems_all is fun j hj=>h j (List.mem_cons_of_mem _ hj)
  simp only [Op.eqItems,Sem.run_bind,h1,h2,h3,Result.andThen_ok,List.all_cons]
  cases r i
  ·rfl
  ·simpa using ih
theorem part_int {w:World} {k:IntKind} (he:P.underlying e=some (.int k)) {xs:Array Value} {i:Nat} {v:Value} (h:xs[i]?=some v):(part e xs i).run P w= .ok v w:=by
 simp [part,isAgg,run_underlying he,h]
theorem exec_eqlS {ρ:Operand→Value} {dst:Option Tmp} {ty:TypeId} {pos:String} {after:Array Edge} {g:Option (Nat×Bool)} {t yt:TypeId} {xs ys:Array Value} {q:Bool} {x y:Operand} (hm:P.eqGuardType P.depth t=false) (hq: ∀w,(Op.equalIn 10000 t (.agg xs) (.agg ys)).run P w= .ok q w) (hx:ρ x= .agg xs) (hy:ρ y= .agg ys) (w:World):
  (execOp ρ ⟨dst, .binOp .eql t x y yt,ty,pos,after,g⟩).run P w= .ok (.value (.bool q)) w:=by
 simp only [execOp,hx,hy,Sem.run_bind,run_eqGuard_agg w .eql t x y _ _ hm,Result.andThen_ok,run_eql_struct,hq,Sem.run_pure]
theorem exec_neqS {ρ:Operand→Value} {dst:Option Tmp} {ty:TypeId} {pos:String} {after:Array Edge} {g:Option (Nat×Bool)} {t yt:TypeId} {xs ys:Array Value} {q:Bool} {x y:Operand} (hm:P.eqGuardType P.depth t=false) (hq: ∀w,(Op.equalIn 10000 t (.agg xs) (.agg ys)).run P w= .ok q w) (hx:ρ x= .agg xs) (hy:ρ y= .agg ys) (w:World):
  (execOp ρ ⟨dst, .binOp .neq t x y yt,ty,pos,after,g⟩).run P w= .ok (.value (.bool (!q))) w:=by
 simp only [execOp,hx,hy,Sem.run_bind,run_eqGuard_agg w .neq t x y _ _ hm,Result.andThen_ok,run_neq_struct,hq,Sem.run_pure]
end
end Go.Proofs.YtjdbbnhnbdocbaaGreat
namespace Go.Tn
open Go.RowKit
variable {P:Program}
def plainV:Value→Bool
 | .int _ _| .bool _| .string _| .pointer _| .slice _ _ _| .map _=>true
 | _=>false
theorem exec_store1 {ρ:Operand→Value} {dst:Option Tmp} {ty:TypeId} {pos:String} {after:Array Edge} {g:Option (Nat×Bool)} {t:TypeId} {x y:Operand} {w:World} {b o:Nat} {v old:Value} (hT:ScalarT P t) (hsz:(P.info? t).map (·.size)=some 1) (hx:ρ x= .pointer (some ⟨b,o,none⟩)) (hy:ρ y=v) (h1:plainV v=true) (hc:w.cell? ⟨b,o,none⟩=some old) (hf:w.frozen? ⟨b,o,none⟩=false):
  (execOp ρ ⟨dst, .store t x y,ty,pos,after,g⟩).run P w= .ok .skip (w.setCell ⟨b,o,none⟩ v):=by
 obtain ⟨d,hu,hd⟩:=hT.plain
 have hagg:(isAgg t).run P w= .ok false w:=by cases d<;>simp at hd<;>simp [isAgg,underlying,hu]
 cases hq:P.info? t with
 | none=>simp [hq] at hsz
 | some i=>
  have hs:i.size=1:=by simpa [hq] using hsz
  have hso:(sizeOf t).run P w= .ok 1 w:=by simp [sizeOf,typeInfo,hq,hs]
  cases v<;>first
   | (simp [execOp,hx,hy,Instr.storeAt,Instr.sureAddr,storeVar,hso,storeCells,hc,hf,go_sem];done)
   | (exfalso;simp [plainV] at h1;done)
theorem run_index1 {t e:TypeId} {n:Nat} {k:IntKind} {cs:Array Value} {i:Nat} {v:Value} {w:World} (ht:P.underlying t=some (.array n e)) (hT:ScalarT P e) (hsz:(P.info? e).map (·.size)=some 1) (hi:i<n) (hg:cs[i]?=some v):
  (Instr.index t (.agg cs) (.int k i)).run P w= .ok v w:=by
 obtain ⟨d,hu,hd⟩:=hT.plain
 have hagg:(isAgg e).run P w= .ok false w:=by cases d<;>simp at hd<;>simp [isAgg,underlying,hu]
 cases hq:P.info? e with
 | none=>simp [hq] at hsz
 | some x=>
  have hs:x.size=1:=by simpa [hq] using hsz
  have hso:(sizeOf e).run P w= .ok 1 w:=by simp [sizeOf,typeInfo,hq,hs]
  have h0:(0:Int)≤(i:Int)∧(i:Int)<(n:Int):=by omega
  simp [Instr.index,asIntOf,underlying,ht,hso,part,hagg,hg]
  omega
theorem exec_index1 {ρ:Operand→Value} {dst:Option Tmp} {ty:TypeId} {pos:String} {after:Array Edge} {g:Option (Nat×Bool)} {t e:TypeId} {n:Nat} {k:IntKind} {cs:Array Value} {i:Nat} {v:Value} {w:World} {x y:Operand} (ht:P.underlying t=some (.array n e)) (hT:ScalarT P e) (hsz:(P.info? e).map (·.size)=some 1) (hx:ρ x= .agg cs) (hy:ρ y= .int k i) (hi:i<n) (hg:cs[i]?=some v):
  (execOp ρ ⟨dst, .index t x y,ty,pos,after,g⟩).run P w= .ok (.value v) w:=by
 simp only [execOp,hx,hy,Sem.run_bind,run_index1 ht hT hsz hi hg,Result.andThen_ok,Sem.run_pure]
end Go.Tn
namespace Go.Tn.Bits
theorem fst_eq {g:Nat→Bool} {i n:Nat} (h: ∀j,j<i→g j=false) (hi:g i=true) (hn:i<n):fst g n=i:=by
 rcases Nat.lt_trichotomy (fst g n) i with h1|h1|h1
 ·have:=fst_some (f:=g) (m:=n) (by omega)
  rw [h _ h1] at this;cases this
 ·exact h1
 ·have:=fst_none (f:=g) (m:=n) h1
  rw [hi] at this;cases this
theorem fst_full {g:Nat→Bool} {n:Nat} (h: ∀j,j<n→g j=false):fst g n=n:=by
 have hle:=fst_le g n
 rcases Nat.lt_or_ge (fst g n) n with h1|h1
 ·have:=fst_some (f:=g) (m:=n) h1
  rw [h _ h1] at this;cases this
 ·omega
end Go.Tn.Bits
namespace Go.Tn.Names
open Go
def okByte (c:UInt8):Bool:=decide (32<c.toNat)&&decide (c.toNat<127)&&(c !=47)
def isName (l:List UInt8):Bool:=l.all okByte&&decide (0<l.length)&&decide (l.length<17)&&(l != [46])&&(l != [46,46])
end Go.Tn.Names
namespace Go.Proofs.YtjdbbnhnbdocbaaGreat
open Go.RowKit Go.Tn Go.Tn.Names
abbrev bs (s:ByteArray):List UInt8:=s.data.toList
theorem bs_eq (s:ByteArray):s.toList=bs s:=ByteArray.toList_eq s
theorem bs_len (s:ByteArray):(bs s).length=s.size:=Array.length_toList
theorem bs_get (s:ByteArray) {k:Nat} (h:k<s.size):(bs s)[k]?=some s[k]:=by
 have:=bs_len s
 rw [List.getElem?_eq_getElem (by omega)]
 rfl
def goodTo (s:ByteArray) (k:Nat):Prop:= ∀j (h:j<s.size),j<k→okByte s[j]=true
theorem all_good (s:ByteArray) (h:goodTo s s.size):(bs s).all okByte=true:=by
 rw [List.all_eq_true]
 intro x hx
 obtain ⟨j,hj,rfl⟩:=List.mem_iff_getElem.1 hx
 have hl:=bs_len s
 exact h j (by omega) (by omega)
theorem all_bad (s:ByteArray) {k:Nat} (hk:k<s.size) (h:okByte s[k]=false):(bs s).all okByte=false:=by
 cases hc:(bs s).all okByte with
 | false=>rfl
 | true=>
  have hl:=bs_len s
  have:=List.all_eq_true.1 hc s[k] (List.mem_iff_getElem.2 ⟨k,by omega,rfl⟩)
  rw [h] at this;cases this
theorem isName_of (s:ByteArray) (h:(bs s).all okByte=true):isName (bs s)=(decide (0<s.size)&&decide (s.size<17)&& !(s.toList== [46])&& !(s.toList== [46,46])):=by
 unfold isName
 rw [h,bs_len,bs_eq]
 simp [bne]
theorem odd_any (w:World) (c:Nat):Calls Tryz.prog 131 #[.int .i32 c] w fun e w'=>e= .returned (.bool (decide (c<33)||decide (126<c)||decide (c=47)))∧w'=w:=by
 by_cases h1:c<33
 ·have h1':(c:Int)<33:=by omega
  go_enter Tryz.func131,Tryz.ntmps131
  go_wp2
  go_ret
  exact ⟨by simp [h1],rfl⟩
 ·have h1':(33:Int)≤(c:Int):=by omega
  by_cases h2:126<c
  ·have h2':(126:Int)<(c:Int):=by omega
   go_enter Tryz.func131,Tryz.ntmps131
   go_wp2
   go_ret
   exact ⟨by simp [h2],rfl⟩
  ·have h2':(c:Int)≤126:=by omega
   by_cases h3:c=47
   ·subst h3
    go_enter Tryz.func131,Tryz.ntmps131
    go_wp2
    go_ret
    exact ⟨rfl,rfl⟩
   ·have h3':((c:Int)==47)=false:=by simp;omega
    go_enter Tryz.func131,Tryz.ntmps131
    go_wp2
    go_ret
    exact ⟨by simp [h1,h2,h3]<;>omega,rfl⟩
theorem decode_high (s:ByteArray) (i:Nat) (h:128≤(s.get! i).toNat):128≤(Utf8.decode s i).1:=by
 unfold Utf8.decode
 simp only [Nat.add_zero]
 rw [if_neg (by omega)]
 split
 ·split
  ·assumption
  ·decide
 ·split
  ·split
   ·rename_i h1
    simp only [Bool.and_eq_true,decide_eq_true_eq] at h1
    have:=h1.1
    simp only
    omega
   ·decide
  ·split
   ·split
    ·rename_i h1
     simp only [Bool.and_eq_true,decide_eq_true_eq] at h1
     have:=h1.1
     simp only
     omega
    ·decide
   ·decide
theorem decode_at (s:ByteArray) {k:Nat} (h:k<s.size):(s[k].toNat<128∧Utf8.decode s k=(s[k].toNat,1))∨(128≤s[k].toNat∧128≤(Utf8.decode s k).1):=by
 by_cases ha:s[k].toNat<128
 ·exact .inl ⟨ha,decode_ascii s k h ha⟩
 ·refine .inr ⟨by omega,decode_high s k ?_⟩
  have e:s.get! k=s[k]:=by
   simp [ByteArray.get!,getElem!_pos,h]
   rfl
  rw [e]
  omega
def errOf (l:List UInt8):Int:=if isName l then 0 else 9
theorem errOf_no {l:List UInt8} (h:isName l=false):errOf l=9:=by simp [errOf,h]
theorem errOf_yes {l:List UInt8} (h:isName l=true):errOf l=0:=by simp [errOf,h]
set_option maxRecDepth 20000 in
theorem ncheck_any (w:World) (s:ByteArray):Calls Tryz.prog 72 #[.string s] w
  fun e w'=>e= .returned (.int .i64 (errOf (bs s)))∧Below w.heap.size w w':=by
 have hL:=Lib.hid (bs_len s)
 by_cases h0:0<s.size
 ·have hemp:(s.toList== [])=false:=by
   rw [bs_eq]
   cases hb:bs s with
   | nil=>have:=hL.out;rw [hb] at this;simp at this;omega
   | cons=>rfl
  by_cases h17:s.size<17
  ·have h17':(s.size:Int)≤16:=by omega
   cases e1:(s.toList== [46])
   case' false=>cases e2:(s.toList== [46,46])
   case false.false=>
    go_enter Tryz.func72,Tryz.ntmps72
    go_wp2
    go_loopw [4] (fun _ wr=> ∃pos:Nat,pos≤s.size∧goodTo s pos∧wr=w.iter s pos) (fun _ wr=>s.size-wr.iterPos w.heap.size)
    case atStart=>exact ⟨0,Nat.zero_le _,fun j _ hj=>absurd hj (Nat.not_lt_zero _),rfl⟩
    case round=>
     obtain ⟨pos,hpos,hg,rfl⟩:=hrel
     have hip:(w.iter s pos).iterPos w.heap.size=pos:=by simp [World.iterPos,World.iter_heap]
     by_cases hp:pos<s.size
     ·have hnx:=fun ty=>run_next_any (P:=Tryz.prog) w s pos ty hp
      have hd:=decode_at s hp
      have hbelow:Below w.heap.size w (w.iter s (pos+(Utf8.decode s pos).2)):=(Below.refl _ w).alloc (Nat.le_refl _) _
      have hod:=fun w=>odd_any w (Utf8.decode s pos).1
      rcases hd with ⟨hlt,hd⟩|⟨hge,hd⟩
      ·rw [hd] at hnx hod hbelow
       simp only at hnx hod hbelow
       cases hok:okByte s[pos] with
       | true=>
        have hv:(decide (s[pos].toNat<33)||decide (126<s[pos].toNat)||decide (s[pos].toNat=47))=false:=by
         simp only [okByte,Bool.and_eq_true,decide_eq_true_eq,bne_iff_ne,ne_eq] at hok
         have h47:s[pos].toNat≠47:=fun e=>hok.2 (UInt8.toNat_inj.1 e)
         simp only [Bool.or_eq_false_iff,decide_eq_false_iff_not]
         omega
        have hG:=Lib.hid (show goodTo s (pos+1) from fun j hj hj1=>by
         by_cases e:j=pos
         ·subst e;exact hok
         ·exact hg j hj (by omega))
        simp only [hv] at hod
        clear hg hok hv hd
        generalize s[pos].toNat=c at*
        go_wp2_with (go_at_call 131;refine (hod _).mono ?_;rintro e w2 ⟨rfl,hw2⟩;obtain rfl:=hw2.symm;clear hw2)
        go_roundw
        case rel=>exact ⟨pos+1,by omega,hG.out,rfl⟩
        case measure=>
         have hip2:(w.iter s (pos+1)).iterPos w.heap.size=pos+1:=by simp [World.iterPos,World.iter_heap]
         rw [hip,hip2]
         omega
       | false=>
        have hv:(decide (s[pos].toNat<33)||decide (126<s[pos].toNat)||decide (s[pos].toNat=47))=true:=by
         cases hc:(decide (s[pos].toNat<33)||decide (126<s[pos].toNat)||decide (s[pos].toNat=47)) with
         | true=>rfl
         | false=>
          simp only [Bool.or_eq_false_iff,decide_eq_false_iff_not] at hc
          have h47:¬ s[pos]=47:=fun e=>hc.2 (by rw [e];rfl)
          have:okByte s[pos]=true:=by simp [okByte,h47];omega
          rw [hok] at this;cases this
        have hV:=Lib.hid (errOf_no (l:=bs s) (by simp [isName,all_bad s hp hok]))
        simp only [hv] at hod
        clear hg hok hv hd
        generalize s[pos].toNat=c at*
        go_wp2_with (go_at_call 131;refine (hod _).mono ?_;rintro e w2 ⟨rfl,hw2⟩;obtain rfl:=hw2.symm;clear hw2)
        go_ret
        exact ⟨by rw [hV.out];rfl,hbelow⟩
      ·have hok:okByte s[pos]=false:=by simp [okByte];omega
       have hV:=Lib.hid (errOf_no (l:=bs s) (by simp [isName,all_bad s hp hok]))
       have hv:(decide ((Utf8.decode s pos).1<33)||decide (126<(Utf8.decode s pos).1)||decide ((Utf8.decode s pos).1=47))=true:=by
        simp only [Bool.or_eq_true,decide_eq_true_eq]
        omega
       simp only [hv] at hod
       clear hg hok hv hd
       generalize (Utf8.decode s pos).1=c at*
       generalize (Utf8.decode s pos).2=c2 at*
       go_wp2_with (go_at_call 131;refine (hod _).mono ?_;rintro e w2 ⟨rfl,hw2⟩;obtain rfl:=hw2.symm;clear hw2)
       go_ret
       exact ⟨by rw [hV.out];rfl,hbelow⟩
     ·obtain rfl:pos=s.size:=by omega
      have hV:=Lib.hid (errOf_yes (l:=bs s) (by
       have hA:=all_good s hg
       rw [isName_of s hA,e1,e2]
       simp [h0,h17]))
      have hnx:=fun ty=>run_next_end (P:=Tryz.prog) w s s.size ty hp
      have hbelow:Below w.heap.size w (w.iter s s.size):=(Below.refl _ w).alloc (Nat.le_refl _) _
      clear hg
      go_wp2
      go_ret
      exact ⟨by rw [hV.out];rfl,hbelow⟩
   all_goals
    have hV:=Lib.hid (errOf_no (l:=bs s) (by rw [bs_eq] at*;simp [isName,bne, *]))
    go_enter Tryz.func72,Tryz.ntmps72
    go_wp2
    go_ret
    exact ⟨by rw [hV.out];rfl,Below.refl _ _⟩
  ·have h17':(16:Int)<(s.size:Int):=by omega
   have hV:=Lib.hid (errOf_no (l:=bs s) (by simp [isName,hL.out,h17]))
   go_enter Tryz.func72,Tryz.ntmps72
   go_wp2
   go_ret
   exact ⟨by rw [hV.out];rfl,Below.refl _ _⟩
 ·have hemp:(s.toList== [])=true:=by
   rw [bs_eq,show bs s= [] from List.eq_nil_of_length_eq_zero (by rw [hL.out];omega)]
   rfl
  have hV:=Lib.hid (errOf_no (l:=bs s) (by simp [isName,hL.out,h0]))
  go_enter Tryz.func72,Tryz.ntmps72
  go_wp2
  go_ret
  exact ⟨by rw [hV.out];rfl,Below.refl _ _⟩
theorem short_any (w:World) (s:ByteArray) (n:Nat) (hs:s.size≤maxLen) (hn:n≤1000):Calls Tryz.prog 23 #[.string s, .int .i64 n] w
  fun e w'=> ∃t,e= .returned (.string t)∧bs t=(bs s).take n∧t.size≤n∧w'=w:=by
 unfold maxLen at hs
 by_cases h:n<s.size
 ·have h':(n:Int)<(s.size:Int):=by omega
  go_enter Tryz.func23,Tryz.ntmps23
  go_wp2
  go_ret
  refine ⟨_,rfl,?_,?_,rfl⟩
  ·simp [bs]
  ·simp;omega
 ·have h':(s.size:Int)≤(n:Int):=by omega
  go_enter Tryz.func23,Tryz.ntmps23
  go_wp2
  go_ret
  exact ⟨_,rfl,by rw [List.take_of_length_le (by rw [bs_len];omega)],by omega,rfl⟩
end Go.Proofs.YtjdbbnhnbdocbaaGreat
namespace Go.Tn.Bt
open Go.Tn.Bits
theorem wrap8 (x:Nat):IntKind.u8.wrap (x:Int)=((x %256:Nat):Int):=by rw [IntKind.wrap_u8];omega
theorem wrap32 (x:Nat):IntKind.u32.wrap (x:Int)=((x %4294967296:Nat):Int):=by rw [IntKind.wrap_u32];omega
theorem wrap64 (x:Nat):IntKind.u64.wrap (x:Int)=((x %18446744073709551616:Nat):Int):=by rw [IntKind.wrap_u64];omega
theorem and8 (x y:Nat) (hx:x<256) (hy:y<256):bits .and .u8 (x:Int) (y:Int)=((x &&& y:Nat):Int):=by
 have h:x &&& y<256:=Nat.lt_of_le_of_lt Nat.and_le_left hx
 unfold Go.bits
 simp only [BitVec.ofInt_natCast]
 rw [BitVec.toNat_and,BitVec.toNat_ofNat,BitVec.toNat_ofNat]
 rw [Nat.mod_eq_of_lt (show x<2 ^ IntKind.u8.bits from hx),Nat.mod_eq_of_lt (show y<2 ^ IntKind.u8.bits from hy)]
 rw [wrap8,Nat.mod_eq_of_lt h]
theorem or8 (x y:Nat) (hx:x<256) (hy:y<256):bits .or .u8 (x:Int) (y:Int)=((x ||| y:Nat):Int):=by
 have h:x ||| y<2 ^ 8:=Nat.or_lt_two_pow hx hy
 unfold Go.bits
 simp only [BitVec.ofInt_natCast]
 rw [BitVec.toNat_or,BitVec.toNat_ofNat,BitVec.toNat_ofNat]
 rw [Nat.mod_eq_of_lt (show x<2 ^ IntKind.u8.bits from hx),Nat.mod_eq_of_lt (show y<2 ^ IntKind.u8.bits from hy)]
 rw [wrap8,Nat.mod_eq_of_lt h]
theorem and32 (x y:Nat) (hx:x<4294967296) (hy:y<4294967296):bits .and .u32 (x:Int) (y:Int)=((x &&& y:Nat):Int):=by
 have h:x &&& y<4294967296:=Nat.lt_of_le_of_lt Nat.and_le_left hx
 unfold Go.bits
 simp only [BitVec.ofInt_natCast]
 rw [BitVec.toNat_and,BitVec.toNat_ofNat,BitVec.toNat_ofNat]
 rw [Nat.mod_eq_of_lt (show x<2 ^ IntKind.u32.bits from hx),Nat.mod_eq_of_lt (show y<2 ^ IntKind.u32.bits from hy)]
 rw [wrap32,Nat.mod_eq_of_lt h]
theorem or32 (x y:Nat) (hx:x<4294967296) (hy:y<4294967296):bits .or .u32 (x:Int) (y:Int)=((x ||| y:Nat):Int):=by
 have h:x ||| y<2 ^ 32:=Nat.or_lt_two_pow hx hy
 unfold Go.bits
 simp only [BitVec.ofInt_natCast]
 rw [BitVec.toNat_or,BitVec.toNat_ofNat,BitVec.toNat_ofNat]
 rw [Nat.mod_eq_of_lt (show x<2 ^ IntKind.u32.bits from hx),Nat.mod_eq_of_lt (show y<2 ^ IntKind.u32.bits from hy)]
 rw [wrap32,Nat.mod_eq_of_lt h]
theorem mask8 (p k:Nat) (hk:k≤8):(p %256) &&& (2 ^ k-1)=p %2 ^ k:=by
 rw [Nat.and_two_pow_sub_one_eq_mod,Nat.mod_mod_of_dvd]
 exact Nat.pow_dvd_pow (n:=8) 2 hk
end Go.Tn.Bt
namespace Go.Tn.Bt
def bitsN (x:Nat):Nat→List Bool
 | 0=> []
 | n+1=>x.testBit n::bitsN x n
def natOf:List Bool→Nat
 | []=>0
 | b::r=>b.toNat*2 ^ r.length+natOf r
def byteOf (l:List Bool):Nat:=natOf l*2 ^ (8-l.length)
def packN:Nat→List Bool→List Nat
 | 0,_=> []
 | n+1,l=>byteOf (l.take 8)::packN n (l.drop 8)
def pack (l:List Bool):List Nat:=packN ((l.length+7)/8) l
def unpack (b:List Nat):List Bool:=b.flatMap (fun x=>bitsN x 8)
theorem bitsN_len (x:Nat): ∀n,(bitsN x n).length=n
 | 0=>rfl
 | n+1=>by simp [bitsN,bitsN_len x n]
theorem natOf_append: ∀a b:List Bool,natOf (a++b)=natOf a*2 ^ b.length+natOf b
 | [],b=>by simp [natOf]
 | x::a,b=>by
  simp only [List.cons_append,natOf,natOf_append a b,List.length_append,Nat.pow_add,Nat.add_mul,Nat.mul_assoc,Nat.add_assoc]
theorem natOf_lt: ∀a:List Bool,natOf a<2 ^ a.length
 | []=>by simp [natOf]
 | x::a=>by
  have:=natOf_lt a
  have hx:x.toNat≤1:=by cases x<;>decide
  have:x.toNat*2 ^ a.length≤1*2 ^ a.length:=Nat.mul_le_mul_right _ hx
  simp only [natOf,List.length_cons,Nat.pow_succ]
  omega
theorem natOf_bitsN (x:Nat): ∀n,natOf (bitsN x n)=x %2 ^ n
 | 0=>by simp [natOf,bitsN,Nat.mod_one]
 | n+1=>by
  simp only [bitsN,natOf,bitsN_len,natOf_bitsN x n]
  rw [Nat.mod_pow_succ,Nat.testBit_eq_decide_div_mod_eq]
  have h:x/2 ^ n %2<2:=Nat.mod_lt _ (by decide)
  have:(decide (x/2 ^ n %2=1)).toNat=x/2 ^ n %2:=by
   by_cases h1:x/2 ^ n %2=1
   ·simp [h1]
   ·have:x/2 ^ n %2=0:=by omega
    simp [this]
  rw [this,Nat.mul_comm,Nat.add_comm]
theorem bitsN_add (x m:Nat): ∀k,bitsN x (k+m)=bitsN (x/2 ^ m) k++bitsN x m
 | 0=>by simp [bitsN]
 | k+1=>by
  rw [Nat.succ_add]
  simp only [bitsN,List.cons_append,bitsN_add x m k]
  rw [Nat.testBit_div_two_pow,Nat.add_comm k m]
theorem bitsN_congr {x y:Nat}: ∀{n:Nat},x %2 ^ n=y %2 ^ n→bitsN x n=bitsN y n
 | 0,_=>rfl
 | n+1,h=>by
  have h1:x.testBit n=y.testBit n:=by
   have e1:=Nat.testBit_mod_two_pow x (n+1) n
   have e2:=Nat.testBit_mod_two_pow y (n+1) n
   rw [h] at e1
   rw [e1] at e2
   simpa using e2
  have h2:x %2 ^ n=y %2 ^ n:=by
   have:=congrArg (· %2 ^ n) h
   simpa [Nat.mod_mod_of_dvd _ (Nat.pow_dvd_pow 2 (Nat.le_succ n))] using this
  simp only [bitsN,h1,bitsN_congr h2]
theorem bitsN_natOf: ∀l:List Bool,bitsN (natOf l) l.length=l
 | []=>rfl
 | b::r=>by
  have hlt:=natOf_lt r
  have h0:(natOf (b::r)) %2 ^ r.length=natOf r %2 ^ r.length:=by simp only [natOf];rw [Nat.add_comm,Nat.add_mul_mod_self_right]
  simp only [List.length_cons,bitsN]
  rw [bitsN_congr h0,bitsN_natOf r]
  congr 1
  simp only [natOf]
  rw [Nat.testBit_eq_decide_div_mod_eq,Nat.add_comm,Nat.add_mul_div_right _ _ (Nat.two_pow_pos _),Nat.div_eq_of_lt hlt]
  cases b<;>simp
theorem byteOf_lt {l:List Bool} (h:l.length≤8):byteOf l<256:=by
 have h1:=natOf_lt l
 unfold byteOf
 calc natOf l*2 ^ (8-l.length)<2 ^ l.length*2 ^ (8-l.length):=(Nat.mul_lt_mul_right (Nat.two_pow_pos _)).2 h1
  _=256:=by rw [←Nat.pow_add,show l.length+(8-l.length)=8 by omega]
theorem packN_len: ∀n l,(packN n l).length=n
 | 0,_=>rfl
 | n+1,l=>by simp [packN,packN_len n]
theorem pack_len (l:List Bool):(pack l).length=(l.length+7)/8:=packN_len _ _
theorem packN_lt: ∀n l, ∀x∈packN n l,x<256
 | 0,_,_,h=>by cases h
 | n+1,l,x,h=>by
  rcases List.mem_cons.1 h with rfl|h
  ·exact byteOf_lt (by simp [List.length_take];omega)
  ·exact packN_lt n _ x h
theorem pack_lt (l:List Bool): ∀x∈pack l,x<256:=packN_lt _ _
theorem packN_append: ∀(q:Nat) (a b:List Bool) (m:Nat),a.length=8*q→packN (q+m) (a++b)=packN q a++packN m b
 | 0,a,b,m,h=>by
  have:a= []:=List.eq_nil_of_length_eq_zero (by omega)
  subst this
  simp [packN]
 | q+1,a,b,m,h=>by
  rw [Nat.succ_add]
  simp only [packN,List.cons_append]
  rw [List.take_append_of_le_length (by omega),List.drop_append_of_le_length (by omega),packN_append q _ b m (by rw [List.length_drop];omega)]
theorem pack_append {a:List Bool} (b:List Bool) {q:Nat} (h:a.length=8*q):pack (a++b)=pack a++pack b:=by
 unfold pack
 rw [List.length_append,h,show (8*q+b.length+7)/8=q+(b.length+7)/8 by omega,packN_append q a b _ h]
 rw [show (8*q+7)/8=q by omega]
theorem pack_small {l:List Bool} (h0:0<l.length) (h:l.length≤8):pack l= [byteOf l]:=by
 unfold pack
 rw [show (l.length+7)/8=1 by omega]
 simp [packN,List.take_of_length_le h]
theorem byteOf_append {a b:List Bool} (h:a.length+b.length≤8):byteOf (a++b)=byteOf a ||| (natOf b*2 ^ (8-(a.length+b.length))):=by
 have e:byteOf a=(natOf a) <<< (8-a.length):=by rw [Nat.shiftLeft_eq];rfl
 have hb:=natOf_lt b
 have hb':natOf b*2 ^ (8-(a.length+b.length))<2 ^ (8-a.length):=by
  calc natOf b*2 ^ (8-(a.length+b.length))<2 ^ b.length*2 ^ (8-(a.length+b.length)):=(Nat.mul_lt_mul_right (Nat.two_pow_pos _)).2 hb
   _=2 ^ (8-a.length):=by rw [←Nat.pow_add,show b.length+(8-(a.length+b.length))=8-a.length by omega]
 rw [e, ←Nat.shiftLeft_add_eq_or_of_lt hb',Nat.shiftLeft_eq]
 unfold byteOf
 rw [natOf_append,List.length_append,Nat.add_mul,Nat.mul_assoc, ←Nat.pow_add,show b.length+(8-(a.length+b.length))=8-a.length by omega]
def used (l:List Bool):Nat:=if l.length %8=0 then 8 else l.length %8
theorem split8 (l:List Bool): ∃a t:List Bool,l=a++t∧a.length=8*(l.length/8)∧t.length=l.length %8:=
 ⟨l.take (8*(l.length/8)),l.drop (8*(l.length/8)),(List.take_append_drop _ _).symm,by rw [List.length_take];omega,by rw [List.length_drop];omega⟩
theorem pack_more {l p:List Bool} (h0:0<l.length %8) (hp:l.length %8+p.length≤8):
  pack (l++p)=(pack l).set ((pack l).length-1) ((pack l).getLastD 0 ||| (natOf p*2 ^ (8-(l.length %8+p.length)))):=by
 obtain ⟨a,t,rfl,ha,ht⟩:=split8 l
 generalize (a++t).length/8=q at ha
 have htl:t.length<8:=by rw [ht];exact Nat.mod_lt _ (by decide)
 rw [←ht] at h0 hp ⊢
 rw [List.append_assoc,pack_append _ ha,pack_append _ ha,pack_small (l:=t) h0 (by omega),pack_small (l:=t++p) (by rw [List.length_append];omega) (by rw [List.length_append];omega),byteOf_append hp]
 simp
theorem pack_new {l p:List Bool} (h0:l.length %8=0) (h1:0<p.length) (hp:p.length≤8):pack (l++p)=pack l++ [natOf p*2 ^ (8-p.length)]:=by
 rw [pack_append p (q:=l.length/8) (by omega),pack_small h1 hp]
 rfl
theorem unpack_append (a b:List Nat):unpack (a++b)=unpack a++unpack b:=by simp [unpack]
theorem unpack_len: ∀b:List Nat,(unpack b).length=8*b.length
 | []=>rfl
 | x::b=>by
  show (bitsN x 8++unpack b).length=_
  rw [List.length_append,bitsN_len,unpack_len b,List.length_cons]
  omega
theorem natOf_zeros: ∀k,natOf (List.replicate k false)=0
 | 0=>rfl
 | k+1=>by simp [List.replicate_succ,natOf,natOf_zeros k]
theorem bitsN_byteOf {l:List Bool} (h:l.length≤8):bitsN (byteOf l) 8=l++List.replicate (8-l.length) false:=by
 have e:byteOf l=natOf (l++List.replicate (8-l.length) false):=by rw [natOf_append,natOf_zeros,List.length_replicate];rfl
 have e2:8=(l++List.replicate (8-l.length) false).length:=by rw [List.length_append,List.length_replicate];omega
 rw [e]
 conv=>lhs;arg 2;rw [e2]
 exact bitsN_natOf _
theorem unpack_packN: ∀(n:Nat) (l:List Bool),l.length≤8*n→unpack (packN n l)=l++List.replicate (8*n-l.length) false
 | 0,l,h=>by
  have:l= []:=List.eq_nil_of_length_eq_zero (by omega)
  subst this
  rfl
 | n+1,l,h=>by
  have hl:(l.take 8).length≤8:=by rw [List.length_take];omega
  show bitsN (byteOf (l.take 8)) 8++unpack (packN n (l.drop 8))=_
  rw [bitsN_byteOf hl,unpack_packN n (l.drop 8) (by rw [List.length_drop];omega),List.length_drop]
  by_cases h8:8≤l.length
  ·rw [List.length_take,Nat.min_eq_left h8]
   rw [show 8-8=0 by rfl,List.replicate_zero,List.append_nil, ←List.append_assoc,List.take_append_drop]
   rw [show 8*n-(l.length-8)=8*(n+1)-l.length by omega]
  ·rw [List.take_of_length_le (by omega),List.drop_eq_nil_of_le (by omega),List.nil_append,List.append_assoc,List.replicate_append_replicate]
   rw [show 8-l.length+(8*n-(l.length-8))=8*(n+1)-l.length by omega]
theorem unpack_pack (l:List Bool):unpack (pack l)=l++List.replicate (8*((l.length+7)/8)-l.length) false:=unpack_packN _ _ (by omega)
end Go.Tn.Bt
namespace Go.Tn.Bt
open Go.Tn.Bits
theorem drop_bitsN (x:Nat): ∀(m n:Nat),(bitsN x n).drop m=bitsN x (n-m)
 | 0,n=>by simp
 | m+1,0=>by simp [bitsN]
 | m+1,n+1=>by
  rw [show n+1-(m+1)=n-m by omega, ←drop_bitsN x m n]
  rfl
theorem take_bitsN (x:Nat) {k n:Nat} (h:k≤n):(bitsN x n).take k=bitsN (x/2 ^ (n-k)) k:=by
 have e:=bitsN_add x (n-k) k
 rw [show k+(n-k)=n by omega] at e
 rw [e,List.take_left' (bitsN_len _ _)]
theorem unpack_drop: ∀(q:Nat) (B:List Nat),(unpack B).drop (8*q)=unpack (B.drop q)
 | 0,B=>rfl
 | q+1, []=>by simp [unpack]
 | q+1,x::B=>by
  show (bitsN x 8++unpack B).drop (8*(q+1))=unpack (B.drop q)
  rw [List.drop_append,bitsN_len,List.drop_eq_nil_of_le (by rw [bitsN_len];omega),List.nil_append,show 8*(q+1)-8=8*q by omega,unpack_drop q B]
theorem unpack_at {B:List Nat} {q t k c:Nat} (hc:B[q]?=some c) (h:t+k≤8):((unpack B).drop (8*q+t)).take k=bitsN (c/2 ^ (8-t-k)) k:=by
 obtain ⟨hlt,rfl⟩:=List.getElem?_eq_some_iff.1 hc
 rw [←List.drop_drop,unpack_drop,List.drop_eq_getElem_cons hlt]
 show ((bitsN B[q] 8++unpack (B.drop (q+1))).drop t).take k=_
 rw [List.drop_append_of_le_length (by rw [bitsN_len];omega),drop_bitsN,List.take_append_of_le_length (by rw [bitsN_len];omega),take_bitsN _ (by omega)]
theorem take_more (L:List Bool) (a j k:Nat):(L.drop a).take (j+k)=(L.drop a).take j++(L.drop (a+j)).take k:=by
 rw [List.take_add,List.drop_drop]
theorem and7 (x:Nat) (hx:x<9223372036854775808):bits .and .i64 (x:Int) 7=((x %8:Nat):Int):=by
 have h:x &&& 7=x %8:=Nat.and_two_pow_sub_one_eq_mod x 3
 have h7:(7:Int)=((7:Nat):Int):=rfl
 unfold Go.bits
 rw [h7]
 simp only [BitVec.ofInt_natCast]
 rw [BitVec.toNat_and,BitVec.toNat_ofNat,BitVec.toNat_ofNat]
 rw [Nat.mod_eq_of_lt (show x<2 ^ IntKind.i64.bits by show x<2 ^ 64;omega),Nat.mod_eq_of_lt (show 7<2 ^ IntKind.i64.bits by decide),h,IntKind.wrap_i64]
 omega
theorem or64 (x y:Nat) (hx:x<18446744073709551616) (hy:y<18446744073709551616):bits .or .u64 (x:Int) (y:Int)=((x ||| y:Nat):Int):=bits_or x y hx hy
theorem or_add (x p k:Nat) (hp:p<2 ^ k):x*2 ^ k ||| p=x*2 ^ k+p:=by
 rw [←Nat.shiftLeft_eq,Nat.shiftLeft_add_eq_or_of_lt hp]
end Go.Tn.Bt
