import Derived.WalkKit
import Derived.ProofKit
import Derived.OpenShut
import Derived.ShutString
import Derived.ChangeOld
import Derived.Below
import Derived.Deep.Slices
import Derived.WalkSpells
import Derived.WalkLawsBesides
import Derived.Still
import Derived.StillTailTactics
import Derived.Deep.QuietTactic
import Derived.BigQuiet
import Derived.Deep.WholeRow
import Derived.Deep.MidRow
import Derived.Lib.Hide
import Derived.Lib.BitFns
namespace Go.Tn
open Go.ChangeShapes Go.WideShapes Go.ChangeAt Go.RowKit
theorem below_drewN {B:Nat} {a w:World} (h:Below B a w) (n:Nat):Below B a (w.drewN n):=h.trans ⟨rfl,rfl,rfl,Nat.le_refl _,fun _ _=>rfl⟩
def flatFields (P:Program) (g:TypeId→Option (List TypeId)):List Field→Nat→Option (List TypeId)
 | [],_=>some []
 | f::fs,o=>if f.offset=o then (g f.type).bind fun ts=>if P.cellsOf f.type=ts.length then (flatFields P g fs (o+ts.length)).map (ts++ ·) else none else none
def flat (P:Program):Nat→TypeId→Option (List TypeId)
 | 0,_=>none
 | d+1,t=>
  match P.underlying t with
  | some (.struct fs)=>(flatFields P (flat P d) fs.toList 0).bind fun ts=>if P.cellsOf t=ts.length then some ts else none
  | some (.array _ _)=>none
  | some _=>if P.cellsOf t=1 then some [t] else none
  | none=>none
section
variable {H:Type} {enc:TypeId×Value→H} {P:Program} {w:World} {base:Nat} {spare:Nat→Bool} {held:Bool}
def CellsRead (enc:TypeId×Value→H) (P:Program) (w:World) (base:Nat) (spare:Nat→Bool) (held:Bool) (ts:List TypeId) (cs:List Value):Prop:=
 cs.length=ts.length∧ ∀(i:Nat) (t:TypeId),ts[i]?=some t→ ∃c n y,cs[i]?=some c∧DataW.trod enc P w base spare held n t [c]=some y
theorem CellsRead.append {ts us:List TypeId} {cs ds:List Value} (h:CellsRead enc P w base spare held ts cs) (k:CellsRead enc P w base spare held us ds):
  CellsRead enc P w base spare held (ts++us) (cs++ds):=by
 refine ⟨by simp [h.1,k.1],fun i t hi=> ?_⟩
 by_cases hlt:i<ts.length
 ·rw [List.getElem?_append_left hlt] at hi
  rw [List.getElem?_append_left (by rw [h.1];exact hlt)]
  exact h.2 i t hi
 ·rw [List.getElem?_append_right (by omega)] at hi
  rw [List.getElem?_append_right (by rw [h.1];omega),h.1]
  exact k.2 _ t hi
theorem cellsRead_fields (d:Nat) (ih: ∀(t:TypeId) (ts:List TypeId) (fuel:Nat) (cs:List Value) x,flat P d t=some ts→DataW.trod enc P w base spare held fuel t cs=some x→CellsRead enc P w base spare held ts cs):
  ∀(fs:List Field) (o:Nat) (ts:List TypeId) (cs:List Value) (n:Nat),flatFields P (flat P d) fs o=some ts→cs.length=o+ts.length→
   (∀f∈fs, ∃x,DataW.trod enc P w base spare held n f.type ((cs.drop f.offset).take (P.cellsOf f.type))=some x)→CellsRead enc P w base spare held ts (cs.drop o)
 | [],o,ts,cs,n,h,hl,_=>by
  simp [flatFields] at h
  subst h
  refine ⟨by simp at hl ⊢;omega,fun i t hi=>by simp at hi⟩
 | f::fs,o,ts,cs,n,h,hl,hf=>by
  simp only [flatFields] at h
  split at h
  ·rename_i ho
   cases h1:flat P d f.type with
   | none=>simp [h1] at h
   | some us=>
    simp only [h1,Option.bind_some] at h
    split at h
    ·rename_i hc
     cases h2:flatFields P (flat P d) fs (o+us.length) with
     | none=>simp [h2] at h
     | some vs=>
      simp [h2] at h
      subst h
      obtain ⟨x,hx⟩:=hf f (by simp)
      have a:=ih _ _ _ _ _ h1 hx
      have b:=cellsRead_fields d ih fs (o+us.length) vs cs n h2 (by simp at hl;omega) (fun g hg=>hf g (by simp [hg]))
      have e:cs.drop o=(cs.drop f.offset).take (P.cellsOf f.type)++cs.drop (o+us.length):=by
       rw [ho,hc, ←List.drop_drop,List.take_append_drop]
      rw [e]
      exact a.append b
    ·simp at h
  ·simp at h
theorem cellsRead: ∀(d:Nat) (t:TypeId) (ts:List TypeId) (fuel:Nat) (cs:List Value) x,flat P d t=some ts→DataW.trod enc P w base spare held fuel t cs=some x→CellsRead enc P w base spare held ts cs
 | 0,t,ts,fuel,cs,x,h,_=>by simp [flat] at h
 | d+1,t,ts,fuel,cs,x,h,hx=>by
  simp only [flat] at h
  split at h
  ·rename_i fs hu
   cases h1:flatFields P (flat P d) fs.toList 0 with
   | none=>simp [h1] at h
   | some us=>
    simp only [h1,Option.bind_some] at h
    split at h
    ·rename_i hc
     simp at h
     subst h
     obtain ⟨xs,n,_,_,hl,hlen,hf⟩:=DataW.trod_struct hu hx
     have:=cellsRead_fields d (fun t ts fuel cs x=>cellsRead d t ts fuel cs x) fs.toList 0 us cs n h1 (by omega) (fun f hm=>by
      obtain ⟨i,hi,rfl⟩:=List.getElem_of_mem hm
      have hi':i<fs.size:=by simpa using hi
      have:=hf i fs[i] (by simp [hi'])
      exact ⟨xs[i],by simpa [hlen,hi'] using this⟩)
     simpa using this
    ·simp at h
  ·simp at h
  ·rename_i hne1 hne2 hu
   split at h
   ·simp at h
    subst h
    have hone: ∃c,cs= [c]:=by
     cases fuel with
     | zero=>simp [DataW.trod] at hx
     | succ fuel=>
      unfold DataW.trod at hx
      split at hx<;>first
       | exact ⟨_,rfl⟩
       | (exfalso;rename_i h2;exact hne1 _ (Option.some.inj (hu.symm.trans h2)))
       | (exfalso;rename_i h2;exact hne2 _ _ (Option.some.inj (hu.symm.trans h2)))
       | simp at hx
    obtain ⟨c,rfl⟩:=hone
    refine ⟨rfl,fun i u hi=> ?_⟩
    match i,hi with
    | 0,hi=>simp at hi;subst hi;exact ⟨c,fuel,x,rfl,hx⟩
   ·simp at h
  ·simp at h
def CellOk (enc:TypeId×Value→H) (P:Program) (w:World) (base:Nat) (spare:Nat→Bool) (held:Bool) (t:TypeId) (c:Value):Prop:= ∃n y,DataW.trod enc P w base spare held n t [c]=some y
theorem cells?_get {a:Addr} {n:Nat} {cs:List Value} (h:w.cells? base a n=some cs):cs.length=n∧ ∀i,i<n→w.cell? (a.add i)=cs[i]?:=by
 obtain ⟨_,h2,h3⟩:=World.cells?_some h
 exact ⟨h2,h3⟩
theorem open_flat {t e:TypeId} {d:Nat} {ts:List TypeId} {v:Value} {x:DataW H} {ps:List MemPlace} (ht:P.underlying t=some (.slice e)) (hfl:flat P d e=some ts) (hc:P.cellsOf e=ts.length) (hpos:0<ts.length)
  (h:DataW.Trod enc P w base spare held t v x ps) (hval: ∃a n c,v= .slice a n c):
  v= .slice none 0 0∨ ∃b off spot len cap,v= .slice (some ⟨b,off,spot⟩) len cap∧len≤cap∧cap≤maxLen∧(0<len→spot=none∧b<w.heap.size)∧
   ∀i,i<len→ ∀j u,ts[j]?=some u→ ∃c,w.cell? ⟨b,off+i*ts.length+j,none⟩=some c∧CellOk enc P w base spare held u c:=by
 obtain ⟨a0,l0,c0,rfl⟩:=hval
 obtain ⟨fuel,hf⟩:=h
 rcases Go.Deep.open_slice ht hf with ⟨hcs,_⟩|⟨⟨b,off,spot⟩,len,cap,m,n,D,Pl,hcs,hb,hl,hm,hmm,_,hel⟩
 ·left
  simp [Value.cells] at hcs
  rw [hcs.1,hcs.2.1,hcs.2.2]
 ·right
  simp [Value.cells] at hcs
  obtain ⟨rfl,rfl,rfl⟩:=hcs
  refine ⟨b,off,spot,l0,c0,rfl,hl,hm,?_,?_⟩
  ·intro h0
   obtain ⟨cs',hcs',_⟩:=hel 0 (by rw [hmm];split<;>omega)
   have:=(cells?_get hcs').2 0 (by omega)
   have hlen:=(cells?_get hcs').1
   simp [Addr.add] at this
   have h1:w.cell? ⟨b,off,spot⟩=some cs'[0]:=by rw [this,List.getElem?_eq_getElem]
   exact ⟨World.cell?_spot h1,World.block_lt_of_cell? w _ h1⟩
  ·intro i hi j u hu
   obtain ⟨cs',hcs',htr⟩:=hel i (by rw [hmm];split<;>omega)
   obtain ⟨hlen,hget⟩:=cells?_get hcs'
   obtain ⟨hl2,hr⟩:=cellsRead d e ts _ _ _ hfl htr
   obtain ⟨c,n',y,hc1,hc2⟩:=hr j u hu
   have hj:j<ts.length:=(List.getElem?_eq_some_iff.1 hu).1
   refine ⟨c,?_,n',y,hc2⟩
   have h1:=hget j (by omega)
   rw [hc1] at h1
   have hadd:((⟨b,off,spot⟩:Addr).add (i*P.cellsOf e)).add j=(⟨b,off,spot⟩:Addr).add (i*ts.length+j):=by rw [Go.Deep.add_add,hc]
   rw [hadd] at h1
   have hsp:=World.cell?_spot h1
   by_cases h0:i*ts.length+j=0
   ·simp [Addr.add,h0] at h1 hsp
    subst hsp
    simpa [show off+i*ts.length+j=off by omega] using h1
   ·simp only [Addr.add,h0,if_false] at h1
    simpa [Nat.add_assoc] using h1
theorem CellOk.int {t:TypeId} {k:IntKind} {c:Value} (ht:P.underlying t=some (.int k)) (h:CellOk enc P w base spare held t c): ∃n,c= .int k n∧(Lit.int k n).wf=true:=by
 obtain ⟨n,y,h⟩:=h
 obtain ⟨a,h1,_,h3⟩:=DataW.trod_int ht h
 exact ⟨a,by simpa using h1,h3⟩
theorem CellOk.string {t:TypeId} {c:Value} (ht:P.underlying t=some .string) (h:CellOk enc P w base spare held t c): ∃s,c= .string s∧s.size≤maxLen:=by
 obtain ⟨n,y,h⟩:=h
 obtain ⟨a,h1,_,h3⟩:=DataW.trod_string ht h
 exact ⟨a,by simpa using h1,h3⟩
theorem wf_i64_bounds {n:Int} (h:(Lit.int .i64 n).wf=true): -9223372036854775808≤n∧n≤9223372036854775807:=by
 simp [Lit.wf,IntKind.min,IntKind.max,IntKind.signed,IntKind.bits] at h
 omega
end
section
variable {P:Program} {ops:Array Oper} {rest:List Oper} {a:Act} {w:World}
structure AggT (P:Program) (t:TypeId) (n:Nat):Prop where
 agg: ∃d,P.underlying t=some d∧(match d with| .struct _| .array _ _=>true|_=>false)=true
 size:(P.info? t).map (·.size)=some n
def Lies (w:World) (b o:Nat) (cs:Array Value):Prop:= ∀j (h:j<cs.size),w.cell? ⟨b,o+j,none⟩=some cs[j]
theorem addr_add (b o j:Nat):(⟨b,o,none⟩:Addr).add j=⟨b,o+j,none⟩:=by unfold Addr.add;split<;>simp_all
theorem run_loadA {t:TypeId} {b o:Nat} {cs:Array Value} (hT:AggT P t cs.size) (hL:Lies w b o cs):(Instr.loadAt t (.pointer (some ⟨b,o,none⟩))).run P w= .ok (.agg cs) w:=by
 obtain ⟨⟨d,hu,hd⟩,hi⟩:=hT
 have hl:(loadCells ⟨b,o,none⟩ cs.toList.length).run P w= .ok cs.toList.toArray w:=
  run_loadCells_list (P:=P) w ⟨b,o,none⟩ cs.toList (fun j v hv=>by
   obtain ⟨hj,rfl⟩:=List.getElem?_eq_some_iff.1 hv
   rw [addr_add]
   simpa using hL j (by simpa using hj))
 cases hq:P.info? t with
 | none=>simp [hq] at hi
 | some i=>
  have hs:i.size=cs.size:=by simpa [hq] using hi
  have hagg:(isAgg t).run P w= .ok true w:=by
   cases d<;>simp at hd<;>simp [isAgg,underlying,hu]
  simp only [Instr.loadAt,Instr.sureAddr,loadVar,Sem.run_bind,Sem.run_pure,Result.andThen,hagg,if_true]
  simp only [sizeOf,typeInfo,Sem.run_bind,Sem.run_pure,Result.andThen]
  simp only [Array.length_toList,Array.toArray_toList] at hl
  simp [hq,hs,hl]
theorem run_storeA_new {t:TypeId} {T:TypeId} {c cs:Array Value} (hT:AggT P t cs.size) (hc:c.size=cs.size) (h1:cs.all (·.oneCell')=true):
  (Instr.storeAt t (.pointer (some ⟨w.heap.size,0,none⟩)) (.agg cs)).run P (w.alloc (.cells c T))= .ok () (w.alloc (.cells cs T)):=by
 obtain ⟨⟨d,hu,hd⟩,hi⟩:=hT
 have:=run_storeVar_row (P:=P) (w.alloc (.cells c T)) w.heap.size T t c cs (heap_alloc_last w _) hi hc h1
 simp only [Instr.storeAt,Instr.sureAddr,Sem.run_bind,Sem.run_pure,Result.andThen]
 rw [this,World.setRow_alloc_new]
theorem wpList_loadA {Q:Exit→Act→World→Prop} {t:TypeId} {b o:Nat} {cs:Array Value} (hT:AggT P t cs.size) (hL:Lies w b o cs) {dst:Option Tmp} {x:Operand} {ty:TypeId} {pos:String} {after:Array Edge}
  (hx:a.eval x= .pointer (some ⟨b,o,none⟩)) (h:wpList P ops Q rest (a.put dst (.agg cs)) w):wpList P ops Q (⟨dst, .load t x,ty,pos,after,none⟩::rest) a w:=by
 refine wpList_plain rfl fun K hK=> ?_
 simp only [Oper.wp,execOp,hx,Sem.run_bind,run_loadA hT hL,Result.andThen,Sem.run_pure,Oper.upon]
 exact hK _ _ h
theorem wpList_storeA_new {Q:Exit→Act→World→Prop} {t T:TypeId} {c cs:Array Value} (hT:AggT P t cs.size) (hc:c.size=cs.size) (h1:cs.all (·.oneCell')=true) {dst:Option Tmp} {x y:Operand} {ty:TypeId} {pos:String} {after:Array Edge}
  (hx:a.eval x= .pointer (some ⟨w.heap.size,0,none⟩)) (hy:a.eval y= .agg cs) (h:wpList P ops Q rest (a.put dst undef) (w.alloc (.cells cs T))):
  wpList P ops Q (⟨dst, .store t x y,ty,pos,after,none⟩::rest) a (w.alloc (.cells c T)):=by
 refine wpList_plain rfl fun K hK=> ?_
 simp only [Oper.wp,execOp,hx,hy,Sem.run_bind,run_storeA_new hT hc h1,Result.andThen,Sem.run_pure,Oper.upon]
 exact hK _ _ h
end
end Go.Tn
namespace Go.Tn.Bits
def num (f:Nat→Bool):Nat→Nat
 | 0=>0
 | m+1=>num f m*2+(f m).toNat
def fst (f:Nat→Bool):Nat→Nat
 | 0=>0
 | m+1=>if fst f m<m then fst f m else if f m then m else m+1
theorem num_congr {f g:Nat→Bool}: ∀{m:Nat},(∀j,j<m→f j=g j)→num f m=num g m
 | 0,_=>rfl
 | m+1,h=>by simp only [num];rw [num_congr (fun j hj=>h j (by omega)),h m (by omega)]
theorem toNat_le (b:Bool):b.toNat≤1:=by cases b<;>decide
theorem num_lt (f:Nat→Bool): ∀m,num f m<2 ^ m
 | 0=>by simp [num]
 | m+1=>by have:=num_lt f m;have:=toNat_le (f m);simp only [num,Nat.pow_succ];omega
theorem num_add (f:Nat→Bool) (a:Nat): ∀b,num f (a+b)=num f a*2 ^ b+num (fun j=>f (a+j)) b
 | 0=>by simp [num]
 | b+1=>by
  show num f (a+b)*2+(f (a+b)).toNat=_
  rw [num_add f a b]
  simp only [num,Nat.pow_succ]
  rw [Nat.add_mul,Nat.mul_assoc]
  omega
theorem num_le_one (f:Nat→Bool) (h: ∀j,f j=false): ∀m,num f m=0
 | 0=>rfl
 | m+1=>by simp [num,num_le_one f h m,h m]
theorem testBit_num (f:Nat→Bool): ∀(m j:Nat),(num f m).testBit j=(decide (j<m)&&f (m-1-j))
 | 0,j=>by simp [num]
 | m+1,j=>by
  have ht:(f m).toNat<2:=by have:=toNat_le (f m);omega
  cases j with
  | zero=>
   simp only [num,Nat.testBit_zero]
   have:(num f m*2+(f m).toNat) %2=(f m).toNat:=by omega
   rw [this]
   cases h:f m<;>simp [h]
  | succ j=>
   simp only [num]
   rw [Nat.testBit_succ,show (num f m*2+(f m).toNat)/2=num f m by omega,testBit_num f m j]
   have e:m+1-1-(j+1)=m-1-j:=by omega
   rw [e]
   simp
def setB (f:Nat→Bool) (i:Nat) (b:Bool):Nat→Bool:=fun j=>if j=i then b else f j
theorem setB_ne (f:Nat→Bool) {i j:Nat} (b:Bool) (h:j≠i):setB f i b j=f j:=by simp [setB,h]
theorem setB_self (f:Nat→Bool) (i:Nat):setB f i (f i)=f:=by funext j;unfold setB;split<;>simp_all
theorem num_or (f:Nat→Bool) {m i:Nat} (h:i<m):num f m ||| 2 ^ (m-1-i)=num (setB f i true) m:=by
 apply Nat.eq_of_testBit_eq
 intro j
 rw [Nat.testBit_or,testBit_num,testBit_num,Nat.testBit_two_pow]
 by_cases hj:j<m
 ·by_cases he:m-1-i=j
  ·have:m-1-j=i:=by omega
   simp [hj,he,this,setB]
  ·have:m-1-j≠i:=by omega
   simp [hj,he,setB,this]
 ·have:m-1-i≠j:=by omega
  simp [hj,this]
theorem num_xor (f:Nat→Bool) {m i:Nat} (h:i<m):num f m ^^^ 2 ^ (m-1-i)=num (setB f i (!f i)) m:=by
 apply Nat.eq_of_testBit_eq
 intro j
 rw [Nat.testBit_xor,testBit_num,testBit_num,Nat.testBit_two_pow]
 by_cases hj:j<m
 ·by_cases he:m-1-i=j
  ·have:m-1-j=i:=by omega
   simp [hj,he,this,setB]
  ·have:m-1-j≠i:=by omega
   simp [hj,he,setB,this]
 ·have:m-1-i≠j:=by omega
  simp [hj,this]
theorem num_and (f:Nat→Bool) {m i:Nat} (h:i<m):num f m &&& 2 ^ (m-1-i)=if f i then 2 ^ (m-1-i) else 0:=by
 apply Nat.eq_of_testBit_eq
 intro j
 rw [Nat.testBit_and,testBit_num,Nat.testBit_two_pow]
 by_cases he:m-1-i=j
 ·have h1:m-1-j=i:=by omega
  have h2:j<m:=by omega
  cases hf:f i<;>simp [h1,h2,he,hf,Nat.testBit_two_pow]
 ·cases hf:f i<;>simp [he,hf,Nat.testBit_two_pow]
theorem fst_le (f:Nat→Bool): ∀m,fst f m≤m
 | 0=>Nat.le_refl _
 | m+1=>by have:=fst_le f m;simp only [fst];split<;>(try split)<;>omega
theorem fst_none {f:Nat→Bool}: ∀{m j:Nat},j<fst f m→f j=false
 | 0,j,h=>by simp [fst] at h
 | m+1,j,h=>by
  simp only [fst] at h
  by_cases h1:fst f m<m
  ·rw [if_pos h1] at h;exact fst_none h
  ·rw [if_neg h1] at h
   have hm:fst f m=m:=by have:=fst_le f m;omega
   by_cases h2:f m
   ·rw [if_pos h2] at h;exact fst_none (m:=m) (by omega)
   ·rw [if_neg h2] at h
    by_cases hj:j<m
    ·exact fst_none (m:=m) (by omega)
    ·obtain rfl:j=m:=by omega
     simpa using h2
theorem fst_some {f:Nat→Bool}: ∀{m:Nat},fst f m<m→f (fst f m)=true
 | m+1,h=>by
  simp only [fst] at h ⊢
  by_cases h1:fst f m<m
  ·simp only [if_pos h1];exact fst_some h1
  ·simp only [if_neg h1] at h ⊢
   by_cases h2:f m
   ·simp only [if_pos h2];exact h2
   ·rw [if_neg h2] at h;omega
theorem bitLenAux_num (f:Nat→Bool): ∀(m fu:Nat),m≤fu→Go.Lib.bitLenAux fu (num f m)=m-fst f m
 | 0,fu,_=>by cases fu<;>simp [Go.Lib.bitLenAux,num,fst]
 | m+1,0,h=>by omega
 | m+1,fu+1,h=>by
  have ih:=bitLenAux_num f m fu (by omega)
  have hle:=fst_le f m
  have ht:=toNat_le (f m)
  have e:num f (m+1)=num f m*2+(f m).toNat:=rfl
  have e2:num f (m+1)/2=num f m:=by omega
  have hg:fst f (m+1)=if fst f m<m then fst f m else if f m then m else m+1:=rfl
  show (if num f (m+1)=0 then 0 else 1+Go.Lib.bitLenAux fu (num f (m+1)/2))=_
  rw [e2,ih,hg]
  by_cases h1:fst f m<m
  ·have hne:num f m≠0:=by
    intro h0
    have:=testBit_num f m (m-1-fst f m)
    rw [h0,show m-1-(m-1-fst f m)=fst f m by omega,fst_some h1] at this
    have h2:m-1-fst f m<m:=by omega
    simp [h2] at this
   rw [if_neg (by omega),if_pos h1]
   omega
  ·have hz:num f m=0:=by
    have:num f m=num (fun _=>false) m:=num_congr fun j hj=>fst_none (m:=m) (by omega)
    rw [this];exact num_le_one _ (fun _=>rfl) m
   rw [if_neg h1]
   cases hf:f m
   ·rw [if_pos (by rw [e,hz,hf];rfl)];simp
   ·rw [if_neg (by rw [e,hz,hf];decide)];simp;omega
theorem bitLen_num (f:Nat→Bool) {m:Nat} (h:m≤64):Go.Lib.bitLen (num f m)=m-fst f m:=bitLenAux_num f m 64 h
theorem num_of {x m:Nat} (h:x<2 ^ m):x=num (fun j=>x.testBit (m-1-j)) m:=by
 apply Nat.eq_of_testBit_eq
 intro j
 rw [testBit_num]
 by_cases hj:j<m
 ·have:m-1-(m-1-j)=j:=by omega
  simp [hj,this]
 ·simp only [hj,decide_false,Bool.false_and]
  exact Nat.testBit_lt_two_pow (Nat.lt_of_lt_of_le h (Nat.pow_le_pow_right (by omega) (by omega)))
end Go.Tn.Bits
namespace Go.Tn
open Go.RowKit
structure Mod (S:Nat→Prop) (w w':World):Prop where
 os:w'.os=w.os
 tape:w'.tape=w.tape
 output:w'.output=w.output
 size:w.heap.size≤w'.heap.size
 block: ∀k,k<w.heap.size→¬ S k→w'.heap[k]?=w.heap[k]?
theorem Mod.refl (S:Nat→Prop) (w:World):Mod S w w:=⟨rfl,rfl,rfl,Nat.le_refl _,fun _ _ _=>rfl⟩
theorem Mod.trans {S S' T:Nat→Prop} {a b c:World} (h:Mod S a b) (k:Mod S' b c) (hS: ∀x,S x→T x) (hT: ∀x,x<a.heap.size→S' x→T x):Mod T a c:=
 ⟨k.os.trans h.os,k.tape.trans h.tape,k.output.trans h.output,Nat.le_trans h.size k.size,fun x hx hn=>
  (k.block x (Nat.lt_of_lt_of_le hx h.size) (fun hs=>hn (hT x hx hs))).trans (h.block x hx (fun hs=>hn (hS x hs)))⟩
theorem Mod.mono {S T:Nat→Prop} {a b:World} (h:Mod S a b) (hS: ∀x,x<a.heap.size→S x→T x):Mod T a b:=
 ⟨h.os,h.tape,h.output,h.size,fun x hx hn=>h.block x hx (fun hs=>hn (hS x hx hs))⟩
theorem Mod.below {S:Nat→Prop} {a b:World} {B:Nat} (h:Mod S a b) (hB:B≤a.heap.size) (hS: ∀x,x<B→¬ S x):Below B a b:=
 ⟨h.os,h.tape,h.output,h.size,fun x hx=>h.block x (Nat.lt_of_lt_of_le hx hB) (hS x hx)⟩
theorem Mod.of_below {a b:World} {B:Nat} (h:Below B a b):Mod (fun x=>B≤x) a b:=
 ⟨h.os,h.tape,h.output,h.size,fun x _ hn=>h.block x (Nat.lt_of_not_le hn)⟩
theorem Mod.alloc {S:Nat→Prop} {a w:World} (h:Mod S a w) (o:Obj):Mod S a (w.alloc o):=
 h.trans (S':=fun _=>False) ⟨rfl,rfl,rfl,by simp,fun k hk _=>Below.heap_alloc _ _ _ hk⟩ (fun _ h=>h) (fun _ _ h=>h.elim)
theorem Mod.drew {S:Nat→Prop} {a w:World} (h:Mod S a w):Mod S a w.drew:=⟨h.os,h.tape,h.output,h.size,h.block⟩
theorem Mod.drewN {S:Nat→Prop} {a w:World} (h:Mod S a w) (n:Nat):Mod S a (w.drewN n):=⟨h.os,h.tape,h.output,h.size,h.block⟩
theorem Mod.setCell {S:Nat→Prop} {a w:World} (h:Mod S a w) (p:Addr) (u:Value) (hp:p.block<a.heap.size→S p.block):Mod S a (w.setCell p u):=
 h.trans (S':=fun x=>x=p.block) ⟨rfl,rfl,rfl,by simp [World.setCell],fun k hk hn=>Below.heap_setCell _ _ _ _ hn⟩ (fun _ h=>h) (fun x hx e=>by subst e;exact hp hx)
theorem Mod.grown {S:Nat→Prop} {a w w':World} {row:Option Nat} (h:Mod S a w) (hg:w.grownBy w' row) (hr: ∀k,row=some k→k<a.heap.size→S k):Mod S a w':=
 h.trans (S':=fun x=>row=some x) ⟨hg.os,hg.tape,hg.output,hg.size,fun k hk hn=>hg.block k hk (fun e=>hn e.symm)⟩ (fun _ h=>h) (fun x hx e=>hr x e hx)
theorem Mod.heap {S:Nat→Prop} {a w:World} {b:Nat} {o:Obj} (h:Mod S a w) (hb:a.heap[b]?=some o) (hn:¬ S b):w.heap[b]?=some o:=
 (h.block b (lt_of_block hb) hn).trans hb
theorem heap_alloc_at {w:World} {o:Obj}:(w.alloc o).heap[w.heap.size]?=some o:=heap_alloc_last w o
theorem heap_alloc_lt {w:World} {o:Obj} {b:Nat} (h:b<w.heap.size):(w.alloc o).heap[b]?=w.heap[b]?:=Below.heap_alloc w o b h
theorem heap_alloc_of {w:World} {o x:Obj} {b:Nat} (h:w.heap[b]?=some x):(w.alloc o).heap[b]?=some x:=(heap_alloc_lt (lt_of_block h)).trans h
theorem heap_setCell_ne {w:World} {a:Addr} {v:Value} {b:Nat} (h:b≠a.block):(w.setCell a v).heap[b]?=w.heap[b]?:=Below.heap_setCell _ _ _ _ h
theorem heap_setCell_of {w:World} {a:Addr} {v:Value} {b:Nat} {x:Obj} (h:w.heap[b]?=some x) (hn:b≠a.block):(w.setCell a v).heap[b]?=some x:=(heap_setCell_ne hn).trans h
theorem heap_setCell_at {w:World} {b o:Nat} {v:Value} {c:Array Value} {t:TypeId} {fr:Nat×Nat} (h:w.heap[b]?=some (.cells c t fr)):(w.setCell ⟨b,o,none⟩ v).heap[b]?=some (.cells (c.setIfInBounds o v) t fr):=by
 simp [World.setCell,Array.getElem?_modify,h]
theorem cell_of {w:World} {b o:Nat} {v:Value} {c:Array Value} {t:TypeId} {fr:Nat×Nat} (h:w.heap[b]?=some (.cells c t fr)) (hv:c[o]?=some v):w.cell? ⟨b,o,none⟩=some v:=by
 simp [World.cell?,h,hv]
theorem free_of {w:World} {b o:Nat} {c:Array Value} {t:TypeId} (h:w.heap[b]?=some (.cells c t (0,0))):w.frozen? ⟨b,o,none⟩=false:=by
 simp [World.frozen?,h]
theorem lies_of {w:World} {b:Nat} {c:Array Value} {t:TypeId} {fr:Nat×Nat} (h:w.heap[b]?=some (.cells c t fr)):Lies w b 0 c:=by
 intro j hj
 rw [Nat.zero_add]
 exact cell_of h (Array.getElem?_eq_getElem hj)
structure KeyOK (P:Program) (K:TypeId) {κ:Type} [DecidableEq κ] (enc:κ→Value):Prop where
 now: ∃d,P.underlying K=some d∧ ∀a b,Instr.sameNow d (enc a) (enc b)=none∨Instr.sameNow d (enc a) (enc b)=some (decide (a=b))
 eq: ∀(w:World) a b,(Op.equal K (enc a) (enc b)).run P w= .ok (decide (a=b)) w
 chk: ∀(e:Bool) (w:World) a,(Instr.checkKey e 10000 K (enc a)).run P w= .ok () w
 bits: ∀a,Instr.sameBits 10000 (enc a) (enc a)=true
section
variable {κ:Type}
abbrev Ents (κ:Type):=List (κ×Value×Nat)
def ents (enc:κ→Value) (L:Ents κ):Array MapEntry:=(L.map fun e=>⟨enc e.1,e.2.1,e.2.2⟩).toArray
theorem ents_modify {enc:κ→Value} (L:Ents κ) (i:Nat) (f:κ×Value×Nat→κ×Value×Nat) (g:MapEntry→MapEntry) (h: ∀e,L[i]?=some e→g ⟨enc e.1,e.2.1,e.2.2⟩=⟨enc (f e).1,(f e).2.1,(f e).2.2⟩):
  (ents enc L).modify i g=ents enc (L.modify i f):=by
 apply Array.ext_getElem?
 intro j
 simp only [ents,Array.getElem?_modify,List.getElem?_toArray,List.getElem?_map,List.getElem?_modify]
 by_cases hij:i=j
 ·subst hij
  cases hl:L[i]? with
  | none=>simp
  | some e=>simp [h e hl]
 ·simp [hij]
theorem ents_push {enc:κ→Value} (L:Ents κ) (k:κ) (v:Value) (c:Nat):(ents enc L).push ⟨enc k,v,c⟩=ents enc (L++ [(k,v,c)]):=by
 simp [ents]
variable [DecidableEq κ]
def look (k:κ):Ents κ→Nat→Option (Nat×Value)
 | [],_=>none
 | e::es,i=>if k=e.1 then some (i,e.2.1) else look k es (i+1)
def get (k:κ) (L:Ents κ):Option Value:=(look k L 0).map (·.2)
theorem look_none {k:κ}: ∀{L:Ents κ} {i:Nat},look k L i=none↔ ∀e∈L,e.1≠k
 | [],i=>by simp [look]
 | e::es,i=>by
  simp only [look]
  split
  ·rename_i h;simp [h]
  ·rename_i h
   rw [look_none]
   constructor
   ·intro h2 x hx
    rcases List.mem_cons.1 hx with rfl|hx
    ·exact fun e=>h e.symm
    ·exact h2 x hx
   ·exact fun h2 x hx=>h2 x (List.mem_cons_of_mem _ hx)
theorem look_some {k:κ}: ∀{L:Ents κ} {i j:Nat} {v:Value},look k L i=some (j,v)→ ∃n e,j=i+n∧L[n]?=some e∧e.1=k∧e.2.1=v
 | [],i,j,v,h=>by simp [look] at h
 | e::es,i,j,v,h=>by
  simp only [look] at h
  split at h
  ·rename_i hk
   simp at h
   exact ⟨0,e,by omega,rfl,hk.symm,h.2⟩
  ·obtain ⟨n,e',hj,hn,h1,h2⟩:=look_some h
   exact ⟨n+1,e',by omega,by simpa using hn,h1,h2⟩
variable {P:Program} {K:TypeId} {enc:κ→Value} {w:World}
theorem findNow_ents {d:TypeDesc} (hd: ∀a b,Instr.sameNow d (enc a) (enc b)=none∨Instr.sameNow d (enc a) (enc b)=some (decide (a=b))) (k:κ):
  ∀(L:Ents κ) (i:Nat),Instr.findNow d (enc k) (L.map fun e=>⟨enc e.1,e.2.1,e.2.2⟩) i=none∨Instr.findNow d (enc k) (L.map fun e=>⟨enc e.1,e.2.1,e.2.2⟩) i=some (look k L i)
 | [],i=> .inr rfl
 | e::es,i=>by
  simp only [List.map_cons,Instr.findNow]
  rcases hd k e.1 with h|h
  ·left;rw [h]
  ·rw [h]
   by_cases hk:k=e.1
   ·right;simp [hk,look]
   ·have:=findNow_ents hd k es (i+1)
    simpa [hk,look] using this
theorem findAsking_ents (hK:KeyOK P K enc) (k:κ): ∀(L:Ents κ) (i:Nat),
  (Instr.findAsking K (enc k) (L.map fun e=>⟨enc e.1,e.2.1,e.2.2⟩) i).run P w= .ok (look k L i) w
 | [],i=>rfl
 | e::es,i=>by
  simp only [List.map_cons,Instr.findAsking,Sem.run_bind,hK.eq,Result.andThen_ok,look]
  by_cases hk:k=e.1
  ·simp [hk]
  ·have:=findAsking_ents hK k es (i+1)
   simpa [hk] using this
theorem findKey_ents (hK:KeyOK P K enc) (k:κ) (L:Ents κ):(Instr.findKey K (enc k) (ents enc L).toList).run P w= .ok (look k L 0) w:=by
 obtain ⟨d,hu,hd⟩:=hK.now
 have hund:(underlying K).run P w= .ok d w:=by simp [underlying,hu]
 simp only [Instr.findKey,Sem.run_bind,hund,Result.andThen_ok,ents,List.toList_toArray]
 rcases findNow_ents hd k L 0 with h|h
 ·rw [h];exact findAsking_ents hK k L 0
 ·rw [h];rfl
theorem run_getObj {r:Nat} {es:Array MapEntry} {clk:Nat} (h:w.heap[r]?=some (.map es clk)):(getObj r).run P w= .ok (.map es clk) w:=by
 simp [getObj,Sem.run,h]
def setObjW (w:World) (r:Nat) (o:Obj):World:={w with heap:=w.heap.setIfInBounds r o}
theorem run_setObj {r:Nat} {es:Array MapEntry} {clk:Nat} {o:Obj} (h:w.heap[r]?=some (.map es clk)):(setObj r o).run P w= .ok () (setObjW w r o):=by
 simp [setObj,Sem.run,h,setObjW]
theorem setObjW_at {r:Nat} {o:Obj} (h:r<w.heap.size):(setObjW w r o).heap[r]?=some o:=by simp [setObjW,h]
theorem setObjW_ne {r b:Nat} {o:Obj} (h:b≠r):(setObjW w r o).heap[b]?=w.heap[b]?:=by
 simp only [setObjW]
 rw [Array.getElem?_setIfInBounds_ne (by omega)]
theorem setObjW_mod (r:Nat) (o:Obj):Mod (fun x=>x=r) w (setObjW w r o):=
 ⟨rfl,rfl,rfl,by simp [setObjW],fun k _ hn=>setObjW_ne hn⟩
@[simp] theorem setObjW_size (r:Nat) (o:Obj):(setObjW w r o).heap.size=w.heap.size:=by simp [setObjW]
def getD (k:κ) (L:Ents κ) (z:Value):Value:=(get k L).getD z
theorem run_lookup {T E m clk:Nat} {L:Ents κ} {z:Value} (hK:KeyOK P K enc) (hT:P.underlying T=some (.map K E)) (hz: ∀w,(zeroValue E).run P w= .ok z w) (hb:w.heap[m]?=some (.map (ents enc L) clk)) (k:κ):
  (Instr.lookup T (.map (some m)) (enc k) false).run P w= .ok (getD k L z) w:=by
 have hund:(underlying T).run P w= .ok (.map K E) w:=by simp [underlying,hT]
 simp only [Instr.lookup,Sem.run_bind,hund,Result.andThen_ok,run_getObj hb,Sem.run_pure,hK.chk,findKey_ents hK]
 cases h:look k L 0 with
 | none=>simp [getD,get,h,hz]
 | some x=>simp [getD,get,h]
theorem run_lookup_ok {T E m clk:Nat} {L:Ents κ} {z:Value} (hK:KeyOK P K enc) (hT:P.underlying T=some (.map K E)) (hz: ∀w,(zeroValue E).run P w= .ok z w) (hb:w.heap[m]?=some (.map (ents enc L) clk)) (k:κ):
  (Instr.lookup T (.map (some m)) (enc k) true).run P w= .ok (.tuple #[getD k L z, .bool (get k L).isSome]) w:=by
 have hund:(underlying T).run P w= .ok (.map K E) w:=by simp [underlying,hT]
 simp only [Instr.lookup,Sem.run_bind,hund,Result.andThen_ok,run_getObj hb,Sem.run_pure,hK.chk,findKey_ents hK]
 cases h:look k L 0 with
 | none=>simp [getD,get,h,hz]
 | some x=>simp [getD,get,h]
def upd (k:κ) (v:Value) (L:Ents κ) (clk:Nat):Ents κ:=
 match look k L 0 with
 | some (i,_)=>L.modify i fun e=>(e.1,v,e.2.2)
 | none=>L++ [(k,v,clk)]
def updClk (k:κ) (L:Ents κ) (clk:Nat):Nat:=if (look k L 0).isSome then clk else clk+1
theorem run_keyThatStays (hK:KeyOK P K enc) (k:κ):(Instr.keyThatStays (enc k) (enc k)).run P w= .ok (enc k) w:=by
 simp [Instr.keyThatStays,hK.bits]
theorem run_mapUpdate {T E m clk:Nat} {L:Ents κ} (hK:KeyOK P K enc) (hT:P.underlying T=some (.map K E)) (hb:w.heap[m]?=some (.map (ents enc L) clk)) (k:κ) (v:Value):
  (Instr.mapUpdate T (.map (some m)) (enc k) v).run P w= .ok () (setObjW w m (.map (ents enc (upd k v L clk)) (updClk k L clk))):=by
 have hund:(underlying T).run P w= .ok (.map K E) w:=by simp [underlying,hT]
 simp only [Instr.mapUpdate,Sem.run_bind,hund,Result.andThen_ok,run_getObj hb,hK.chk,findKey_ents hK]
 cases h:look k L 0 with
 | none=>
  simp only [run_setObj hb,upd,updClk,h,ents_push]
  rfl
 | some x=>
  obtain ⟨i,u⟩:=x
  obtain ⟨n,e,hj,hn,h1,h2⟩:=look_some h
  obtain rfl:i=n:=by omega
  have hkey:(((ents enc L)[i]?).map (·.key)).getD (enc k)=enc k:=by simp [ents,hn,h1]
  have hm:=ents_modify (enc:=enc) L i (fun e=>(e.1,v,e.2.2)) (fun e=>{e with key:=enc k,val:=v}) (fun e' he'=>by rw [hn] at he';cases he';simp [h1])
  simp only [Sem.run_bind,hkey,run_keyThatStays hK,Result.andThen_ok,run_setObj hb,upd,updClk,h,Option.isSome_some,if_true,hm]
def del (k:κ) (L:Ents κ):Ents κ:=match look k L 0 with|some (i,_)=>L.eraseIdx i|none=>L
theorem run_delete {T E m clk:Nat} {L:Ents κ} {tk ty:TypeId} (hK:KeyOK P K enc) (hT:P.underlying T=some (.map K E)) (hb:w.heap[m]?=some (.map (ents enc L) clk)) (k:κ):
  (Builtin.delete_ #[T,tk] ty #[.map (some m),enc k]).run P w= .ok (.tuple #[]) (setObjW w m (.map (ents enc (del k L)) clk)):=by
 have hund:(underlying T).run P w= .ok (.map K E) w:=by simp [underlying,hT]
 have e1: ∀(x y:TypeId),(#[x,y]:Array TypeId)[0]?=some x:=fun _ _=>rfl
 have e2: ∀(x y:Value),(#[x,y]:Array Value)[0]?=some x:=fun _ _=>rfl
 have e3: ∀(x y:Value),(#[x,y]:Array Value)[1]?=some y:=fun _ _=>rfl
 simp only [Builtin.delete_,e1,e2,e3,Sem.run_bind,hund,Result.andThen_ok,run_getObj hb,hK.chk,findKey_ents hK]
 cases h:look k L 0 with
 | none=>simp only [Sem.run_bind,run_setObj hb,del,h,Result.andThen_ok,Sem.run_pure]
 | some x=>
  obtain ⟨i,u⟩:=x
  obtain ⟨n,e,hj,hn,h1,h2⟩:=look_some h
  obtain rfl:i=n:=by omega
  have hlt:i<L.length:=(List.getElem?_eq_some_iff.1 hn).1
  have hm:(ents enc L).eraseIdxIfInBounds i=ents enc (L.eraseIdx i):=by
   unfold Array.eraseIdxIfInBounds
   rw [dif_pos (by simpa [ents] using hlt)]
   apply Array.ext_getElem?
   intro j
   simp [ents,List.getElem?_eraseIdx,Array.getElem?_eraseIdx]
   split<;>rfl
  simp only [Sem.run_bind,run_setObj hb,del,h,hm,Result.andThen_ok,Sem.run_pure]
omit [DecidableEq κ] in
structure WF (L:Ents κ) (clk:Nat):Prop where
 keys:L.Pairwise (fun a b=>a.1≠b.1)
 stamps:L.Pairwise (fun a b=>a.2.2≠b.2.2)
 lt: ∀e∈L,e.2.2<clk
omit [DecidableEq κ] in
theorem WF.nil (clk:Nat):WF ([]:Ents κ) clk:=⟨.nil, .nil,by simp⟩
theorem pairwise_idx {α:Type} {R:α→α→Prop} {L:List α} (h:L.Pairwise R) {i j:Nat} {a b:α} (hi:L[i]?=some a) (hj:L[j]?=some b) (hij:i<j):R a b:=by
 obtain ⟨h1,rfl⟩:=List.getElem?_eq_some_iff.1 hi
 obtain ⟨h2,rfl⟩:=List.getElem?_eq_some_iff.1 hj
 exact List.pairwise_iff_getElem.1 h i j h1 h2 hij
omit [DecidableEq κ] in
theorem WF.key {L:Ents κ} {clk:Nat} (h:WF L clk) {n:Nat} {e:κ×Value×Nat} (hn:L[n]?=some e): ∀i e',L[i]?=some e'→e'.1=e.1→i=n:=by
 intro i e' hi he
 rcases Nat.lt_trichotomy i n with hlt|rfl|hgt
 ·exact absurd he (pairwise_idx h.keys hi hn hlt)
 ·rfl
 ·exact absurd he.symm (pairwise_idx h.keys hn hi hgt)
theorem get_of_mem {L:Ents κ} {clk:Nat} (h:WF L clk) {e:κ×Value×Nat} (he:e∈L):get e.1 L=some e.2.1:=by
 obtain ⟨n,hn,rfl⟩:=List.getElem_of_mem he
 unfold get
 cases hl:look L[n].1 L 0 with
 | none=>exact absurd rfl (look_none.1 hl _ he)
 | some x=>
  obtain ⟨i,u⟩:=x
  obtain ⟨j,e',hj,hi,h1,h2⟩:=look_some hl
  have:=h.key (List.getElem?_eq_getElem hn) j e' hi h1
  subst this
  rw [List.getElem?_eq_getElem hn] at hi
  cases hi
  simp [h2]
theorem get_some {k:κ} {L:Ents κ} {v:Value} (h:get k L=some v): ∃b,(k,v,b)∈L:=by
 unfold get at h
 cases hl:look k L 0 with
 | none=>simp [hl] at h
 | some x=>
  obtain ⟨i,u⟩:=x
  obtain ⟨j,e',hj,hi,h1,h2⟩:=look_some hl
  simp [hl] at h
  refine ⟨e'.2.2,?_⟩
  have:=List.mem_of_getElem? hi
  rw [←h, ←h1, ←h2]
  exact this
theorem get_none {k:κ} {L:Ents κ}:get k L=none↔ ∀e∈L,e.1≠k:=by
 unfold get
 rw [Option.map_eq_none_iff]
 exact look_none
theorem mem_upd {k:κ} {v:Value} {L:Ents κ} {clk:Nat} (h:WF L clk) {e:κ×Value×Nat} (he:e∈upd k v L clk):(e∈L∧e.1≠k)∨(e.1=k∧e.2.1=v∧((∃u,(k,u,e.2.2)∈L)∨(e.2.2=clk∧get k L=none))):=by
 unfold upd at he
 cases hl:look k L 0 with
 | none=>
  simp only [hl,List.mem_append,List.mem_singleton] at he
  rcases he with he|rfl
  ·exact .inl ⟨he,look_none.1 hl e he⟩
  ·exact .inr ⟨rfl,rfl, .inr ⟨rfl,by simp [get,hl]⟩⟩
 | some x=>
  obtain ⟨i,u⟩:=x
  simp only [hl] at he
  obtain ⟨j,e0,hj,hi,h1,h2⟩:=look_some hl
  obtain rfl:i=j:=by omega
  obtain ⟨n,hn⟩:=List.getElem?_of_mem he
  rw [List.getElem?_modify] at hn
  by_cases hin:i=n
  ·subst hin
   simp [hi] at hn
   subst hn
   refine .inr ⟨h1,rfl, .inl ⟨e0.2.1,?_⟩⟩
   have:=List.mem_of_getElem? hi
   rw [←h1];exact this
  ·simp [hin] at hn
   refine .inl ⟨List.mem_of_getElem? hn,fun hk=>hin ?_⟩
   exact (h.key hi n e hn (hk.trans h1.symm)).symm
theorem WF.upd {k:κ} {v:Value} {L:Ents κ} {clk:Nat} (h:WF L clk):WF (upd k v L clk) (updClk k L clk):=by
 unfold Go.Tn.upd updClk
 cases hl:look k L 0 with
 | none=>
  refine ⟨List.pairwise_append.2 ⟨h.keys,by simp,fun a ha b hb=> ?_⟩,List.pairwise_append.2 ⟨h.stamps,by simp,fun a ha b hb=> ?_⟩,fun e he=> ?_⟩
  ·simp at hb;subst hb;exact look_none.1 hl a ha
  ·simp at hb;subst hb;have:=h.lt a ha;simp;omega
  ·simp at he
   rcases he with he|rfl
   ·have:=h.lt e he;simp;omega
   ·simp
 | some x=>
  obtain ⟨i,u⟩:=x
  have hget: ∀n:Nat,((L.modify i fun e=>(e.1,v,e.2.2))[n]?).map (fun e:κ×Value×Nat=>(e.1,e.2.2))=(L[n]?).map (fun e:κ×Value×Nat=>(e.1,e.2.2)):=by
   intro n
   rw [List.getElem?_modify]
   by_cases hin:i=n
   ·subst hin;cases L[i]?<;>simp
   ·simp [hin]
  have hmap:(L.modify i fun e=>(e.1,v,e.2.2)).map (fun e:κ×Value×Nat=>(e.1,e.2.2))=L.map (fun e=>(e.1,e.2.2)):=by
   apply List.ext_getElem?
   intro n
   rw [List.getElem?_map,List.getElem?_map]
   exact hget n
  have hk:=h.keys
  have hs:=h.stamps
  have e1:(L.map (fun e=>(e.1,e.2.2))).Pairwise (fun a b=>a.1≠b.1):=List.pairwise_map.2 hk
  have e2:(L.map (fun e=>(e.1,e.2.2))).Pairwise (fun a b=>a.2≠b.2):=List.pairwise_map.2 hs
  rw [←hmap] at e1 e2
  refine ⟨(List.pairwise_map (f:=fun e:κ×Value×Nat=>(e.1,e.2.2)) (R:=fun a b=>a.1≠b.1)).1 e1,(List.pairwise_map (f:=fun e:κ×Value×Nat=>(e.1,e.2.2)) (R:=fun a b=>a.2≠b.2)).1 e2,fun e he=> ?_⟩
  have:(e.1,e.2.2)∈L.map (fun e=>(e.1,e.2.2)):=by rw [←hmap];exact List.mem_map.2 ⟨e,he,rfl⟩
  obtain ⟨e',he',hh⟩:=List.mem_map.1 this
  have:=h.lt e' he'
  simp only [Prod.mk.injEq] at hh
  simp;omega
theorem get_upd {j k:κ} {v:Value} {L:Ents κ} {clk:Nat} (h:WF L clk):get j (Go.Tn.upd k v L clk)=if j=k then some v else get j L:=by
 have hw:=h.upd (k:=k) (v:=v)
 have hmemk: ∃b,(k,v,b)∈Go.Tn.upd k v L clk:=by
  unfold Go.Tn.upd
  cases hl:look k L 0 with
  | none=>exact ⟨clk,by simp⟩
  | some x=>
   obtain ⟨i,u⟩:=x
   obtain ⟨n,e0,hj,hi,h1,h2⟩:=look_some hl
   obtain rfl:i=n:=by omega
   refine ⟨e0.2.2,List.mem_of_getElem? (i:=i) ?_⟩
   rw [List.getElem?_modify]
   simp [hi,h1]
 by_cases hjk:j=k
 ·subst hjk
  obtain ⟨b,hb⟩:=hmemk
  rw [if_pos rfl]
  exact get_of_mem hw hb
 ·rw [if_neg hjk]
  cases hg:get j L with
  | none=>
   rw [get_none] at hg ⊢
   intro e he hej
   rcases mem_upd h he with ⟨h1,_⟩|⟨h1,_⟩
   ·exact hg e h1 hej
   ·exact hjk (hej.symm.trans h1)
  | some u=>
   obtain ⟨b,hb⟩:=get_some hg
   have:(j,u,b)∈Go.Tn.upd k v L clk:=by
    unfold Go.Tn.upd
    cases hl:look k L 0 with
    | none=>simp [hb]
    | some x=>
     obtain ⟨i,u'⟩:=x
     obtain ⟨n,e0,hj',hi,h1,h2⟩:=look_some hl
     obtain rfl:i=n:=by omega
     obtain ⟨q,hq⟩:=List.getElem?_of_mem hb
     refine List.mem_of_getElem? (i:=q) ?_
     rw [List.getElem?_modify]
     have:i≠q:=by
      rintro rfl
      rw [hi] at hq
      cases hq
      exact hjk h1
     simp [this,hq]
   exact get_of_mem hw this
theorem del_sub {k:κ} {L:Ents κ}:(del k L).Sublist L:=by
 unfold del
 cases look k L 0 with
 | none=>exact .refl _
 | some x=>exact List.eraseIdx_sublist _ _
theorem WF.del {k:κ} {L:Ents κ} {clk:Nat} (h:WF L clk):WF (del k L) clk:=
 ⟨h.keys.sublist del_sub,h.stamps.sublist del_sub,fun e he=>h.lt e (del_sub.subset he)⟩
theorem mem_del {k:κ} {L:Ents κ} {clk:Nat} (h:WF L clk) {e:κ×Value×Nat}:e∈Go.Tn.del k L↔e∈L∧e.1≠k:=by
 unfold Go.Tn.del
 cases hl:look k L 0 with
 | none=>exact ⟨fun he=>⟨he,look_none.1 hl e he⟩,fun he=>he.1⟩
 | some x=>
  obtain ⟨i,u⟩:=x
  obtain ⟨n,e0,hj,hi,h1,h2⟩:=look_some hl
  obtain rfl:i=n:=by omega
  simp only []
  rw [List.mem_eraseIdx_iff_getElem?]
  constructor
  ·rintro ⟨q,hq,hqe⟩
   exact ⟨List.mem_of_getElem? hqe,fun hk=>hq (h.key hi q e hqe (hk.trans h1.symm))⟩
  ·rintro ⟨he,hk⟩
   obtain ⟨q,hq⟩:=List.getElem?_of_mem he
   refine ⟨q,?_,hq⟩
   rintro rfl
   rw [hi] at hq;cases hq
   exact hk h1
end
end Go.Tn
