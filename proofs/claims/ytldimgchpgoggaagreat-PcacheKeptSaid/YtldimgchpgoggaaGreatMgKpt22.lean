import Derived.Shelf.Sort.Plain
import Derived.Shelf.Slices.In.SortNone
import Derived.Ground.SlsfProg
import Derived.Shelf.SlSortCmp.Insertion
import Derived.Shelf.SlSortCmp.SiftDown1
import Derived.Shelf.SlSortCmp.HeapSort1
import Derived.Shelf.SlSortCmp.Insertion1
import Derived.Shelf.SlSortCmp.Median1
import Derived.Shelf.SlSortCmp.Pivot1
import Derived.Shelf.SlSortCmp.ReverseRange1
import Derived.Shelf.SlSortCmp.PartialInsertion1
import Derived.Shelf.SlSortCmp.PartitionEqual1
import Derived.Shelf.SlSortCmp.Partition1
import Derived.Shelf.SlSortCmp.Pdq1
import Derived.Shelf.SlSortCmp.Whole1
import Derived.Shelf.SlSortCmp.NoneTotal
import Derived.Shelf.Bytes.Small
import Derived.Shelf.SlLaysF
import Derived.Shelf.SlIterI.Nil
import Derived.Ground.GgzProg
import Derived.Test.YtldimgchpgoggaaGreatProg
import Derived.Test.YtldimgchpgoggaaGreatMgKpt18
namespace Go.Proofs
open Go.Shelf
def Tryz.lays189_ren:Go.Shelf.Ren:=⟨fun|189=>168|125=>138|257=>179|128=>163|129=>164|294=>181|295=>182|296=>183|297=>184|298=>185|299=>186|216=>187|300=>188|301=>189|328=>190|329=>171|330=>172|331=>191|332=>192|215=>88|343=>193|n=>n,fun|28=>39|3=>3|46=>166|0=>0|51=>214|53=>36|4=>4|183=>222|182=>221|131=>95|5=>5|9=>9|218=>230|222=>233|228=>242|229=>155|n=>n,fun|n=>n⟩
theorem Tryz.lays189:Go.Proofs.Lays.n189 Tryz.prog Tryz.lays189_ren:={
 mixed:=by kernel_rfl
 f125:=Tryz.func138.trans (congrArg some (by kernel_rfl))
 f128:=Tryz.func163.trans (congrArg some (by kernel_rfl))
 f129:=Tryz.func164.trans (congrArg some (by kernel_rfl))
 f189:=Tryz.func168.trans (congrArg some (by kernel_rfl))
 f215:=Tryz.func88.trans (congrArg some (by kernel_rfl))
 f216:=Tryz.func187.trans (congrArg some (by kernel_rfl))
 f257:=Tryz.func179.trans (congrArg some (by kernel_rfl))
 f294:=Tryz.func181.trans (congrArg some (by kernel_rfl))
 f295:=Tryz.func182.trans (congrArg some (by kernel_rfl))
 f296:=Tryz.func183.trans (congrArg some (by kernel_rfl))
 f297:=Tryz.func184.trans (congrArg some (by kernel_rfl))
 f298:=Tryz.func185.trans (congrArg some (by kernel_rfl))
 f299:=Tryz.func186.trans (congrArg some (by kernel_rfl))
 f300:=Tryz.func188.trans (congrArg some (by kernel_rfl))
 f301:=Tryz.func189.trans (congrArg some (by kernel_rfl))
 f328:=Tryz.func190.trans (congrArg some (by kernel_rfl))
 f329:=Tryz.func171.trans (congrArg some (by kernel_rfl))
 f330:=Tryz.func172.trans (congrArg some (by kernel_rfl))
 f331:=Tryz.func191.trans (congrArg some (by kernel_rfl))
 f332:=Tryz.func192.trans (congrArg some (by kernel_rfl))
 f343:=Tryz.func193.trans (congrArg some (by kernel_rfl))
 t0:=Tryz.underlying0
 a0:=Tryz.isAgg0
 z0:=Tryz.sizeOf0
 v0:=Tryz.zeroValue0
 t3:=Tryz.underlying3
 a3:=Tryz.isAgg3
 z3:=Tryz.sizeOf3
 v3:=Tryz.zeroValue3
 t4:=Tryz.underlying4
 a4:=Tryz.isAgg4
 z4:=Tryz.sizeOf4
 v4:=Tryz.zeroValue4
 t5:=Tryz.underlying5
 a5:=Tryz.isAgg5
 z5:=Tryz.sizeOf5
 v5:=Tryz.zeroValue5
 t9:=Tryz.underlying9
 a9:=Tryz.isAgg9
 z9:=Tryz.sizeOf9
 v9:=Tryz.zeroValue9
 t28:=Tryz.underlying39
 a28:=Tryz.isAgg39
 z28:=Tryz.sizeOf39
 v28:=Tryz.zeroValue39
 t46:=Tryz.underlying166
 a46:=Tryz.isAgg166
 z46:=Tryz.sizeOf166
 v46:=Tryz.zeroValue166
 t51:=Tryz.underlying214
 a51:=Tryz.isAgg214
 z51:=Tryz.sizeOf214
 v51:=Tryz.zeroValue214
 t53:=Tryz.underlying36
 a53:=Tryz.isAgg36
 z53:=Tryz.sizeOf36
 v53:=Tryz.zeroValue36
 t131:=Tryz.underlying95
 a131:=Tryz.isAgg95
 z131:=Tryz.sizeOf95
 v131:=Tryz.zeroValue95
 t182:=Tryz.underlying221
 a182:=Tryz.isAgg221
 z182:=Tryz.sizeOf221
 v182:=Tryz.zeroValue221
 t183:=Tryz.underlying222
 a183:=Tryz.isAgg222
 z183:=Tryz.sizeOf222
 v183:=Tryz.zeroValue222
 t218:=Tryz.underlying230
 a218:=Tryz.isAgg230
 z218:=Tryz.sizeOf230
 v218:=Tryz.zeroValue230
 t222:=Tryz.underlying233
 a222:=Tryz.isAgg233
 z222:=Tryz.sizeOf233
 v222:=Tryz.zeroValue233
 t228:=Tryz.underlying242
 a228:=Tryz.isAgg242
 z228:=Tryz.sizeOf242
 v228:=Tryz.zeroValue242
 t229:=Tryz.underlying155
 a229:=Tryz.isAgg155
 z229:=Tryz.sizeOf155
 v229:=Tryz.zeroValue155}
open Go.Sort Go.RowKit in
theorem Tryz.slices_Sort_int (blk off cap:Nat) (zs:List Int) (w:World) (hH:Holds (Value.int .i64) w blk off zs.toArray) (hblk:blk<w.heap.size) (hsz:zs.length<4611686018427387904):
   Calls Tryz.prog 168 #[.slice (some ⟨blk,off,none⟩) zs.length cap] w fun e w'=>
     e= .returned (.tuple #[])∧ ∃n os,w'=grow (putRow (Value.int .i64) (Sort.ahead w n) blk off (zs.mergeSort fun x y=>decide (x≤y)).toArray) os:=Any.slices_Sort_int Tryz.lays189 blk off cap zs w hH hblk hsz
open Go.RowKit Go.Sort in
theorem Tryz.slices_Sort_int_none (p:Option Addr) (cap:Nat) (w:World):
   Calls Tryz.prog 168 #[.slice p 0 cap] w fun e w'=>e= .returned (.tuple #[])∧w'=w:=Any.slices_Sort_int_none Tryz.lays189 p cap w
def Tryz.sortF_ren:Go.Shelf.Ren:=⟨fun|6=>104|15=>138|14=>137|28=>163|29=>164|20=>155|21=>156|22=>157|23=>158|24=>159|25=>160|26=>161|27=>162|46=>170|47=>171|48=>172|49=>173|50=>174|57=>180|n=>n,fun|22=>39|24=>3|25=>98|3=>3|39=>166|0=>0|53=>214|55=>36|4=>4|46=>222|45=>221|50=>95|5=>5|9=>9|66=>230|70=>233|76=>242|77=>155|n=>n,fun|n=>n⟩
theorem Tryz.sortF:Go.Proofs.SlLaysF.n6 Tryz.prog Tryz.sortF_ren:={
 mixed:=by kernel_rfl
 f6:=⟨Tryz.f104.name,by decide,Tryz.func104.trans (congrArg some (by kernel_rfl))⟩
 f14:=⟨Tryz.f137.name,by decide,Tryz.func137.trans (congrArg some (by kernel_rfl))⟩
 f15:=Tryz.func138.trans (congrArg some (by kernel_rfl))
 f20:=⟨Tryz.f155.name,by decide,Tryz.func155.trans (congrArg some (by kernel_rfl))⟩
 f21:=⟨Tryz.f156.name,by decide,Tryz.func156.trans (congrArg some (by kernel_rfl))⟩
 f22:=⟨Tryz.f157.name,by decide,Tryz.func157.trans (congrArg some (by kernel_rfl))⟩
 f23:=⟨Tryz.f158.name,by decide,Tryz.func158.trans (congrArg some (by kernel_rfl))⟩
 f24:=⟨Tryz.f159.name,by decide,Tryz.func159.trans (congrArg some (by kernel_rfl))⟩
 f25:=⟨Tryz.f160.name,by decide,Tryz.func160.trans (congrArg some (by kernel_rfl))⟩
 f26:=⟨Tryz.f161.name,by decide,Tryz.func161.trans (congrArg some (by kernel_rfl))⟩
 f27:=⟨Tryz.f162.name,by decide,Tryz.func162.trans (congrArg some (by kernel_rfl))⟩
 f28:=Tryz.func163.trans (congrArg some (by kernel_rfl))
 f29:=Tryz.func164.trans (congrArg some (by kernel_rfl))
 f46:=⟨Tryz.f170.name,by decide,Tryz.func170.trans (congrArg some (by kernel_rfl))⟩
 f47:=Tryz.func171.trans (congrArg some (by kernel_rfl))
 f48:=Tryz.func172.trans (congrArg some (by kernel_rfl))
 f49:=⟨Tryz.f173.name,by decide,Tryz.func173.trans (congrArg some (by kernel_rfl))⟩
 f50:=⟨Tryz.f174.name,by decide,Tryz.func174.trans (congrArg some (by kernel_rfl))⟩
 f57:=⟨Tryz.f180.name,by decide,Tryz.func180.trans (congrArg some (by kernel_rfl))⟩
 t0:=Tryz.underlying0
 a0:=Tryz.isAgg0
 z0:=Tryz.sizeOf0
 v0:=Tryz.zeroValue0
 t3:=Tryz.underlying3
 a3:=Tryz.isAgg3
 z3:=Tryz.sizeOf3
 v3:=Tryz.zeroValue3
 t4:=Tryz.underlying4
 a4:=Tryz.isAgg4
 z4:=Tryz.sizeOf4
 v4:=Tryz.zeroValue4
 t5:=Tryz.underlying5
 a5:=Tryz.isAgg5
 z5:=Tryz.sizeOf5
 v5:=Tryz.zeroValue5
 t9:=Tryz.underlying9
 a9:=Tryz.isAgg9
 z9:=Tryz.sizeOf9
 v9:=Tryz.zeroValue9
 t22:=Tryz.underlying39
 a22:=Tryz.isAgg39
 z22:=Tryz.sizeOf39
 v22:=Tryz.zeroValue39
 a24:=Tryz.isAgg3
 z24:=Tryz.sizeOf3
 t25:=Tryz.underlying98
 a25:=Tryz.isAgg98
 z25:=Tryz.sizeOf98
 v25:=Tryz.zeroValue98
 t39:=Tryz.underlying166
 a39:=Tryz.isAgg166
 z39:=Tryz.sizeOf166
 v39:=Tryz.zeroValue166
 t45:=Tryz.underlying221
 a45:=Tryz.isAgg221
 z45:=Tryz.sizeOf221
 v45:=Tryz.zeroValue221
 t46:=Tryz.underlying222
 a46:=Tryz.isAgg222
 z46:=Tryz.sizeOf222
 v46:=Tryz.zeroValue222
 t50:=Tryz.underlying95
 a50:=Tryz.isAgg95
 z50:=Tryz.sizeOf95
 v50:=Tryz.zeroValue95
 t53:=Tryz.underlying214
 a53:=Tryz.isAgg214
 z53:=Tryz.sizeOf214
 v53:=Tryz.zeroValue214
 t55:=Tryz.underlying36
 a55:=Tryz.isAgg36
 z55:=Tryz.sizeOf36
 v55:=Tryz.zeroValue36
 t66:=Tryz.underlying230
 a66:=Tryz.isAgg230
 z66:=Tryz.sizeOf230
 v66:=Tryz.zeroValue230
 t70:=Tryz.underlying233
 a70:=Tryz.isAgg233
 z70:=Tryz.sizeOf233
 v70:=Tryz.zeroValue233
 t76:=Tryz.underlying242
 a76:=Tryz.isAgg242
 z76:=Tryz.sizeOf242
 v76:=Tryz.zeroValue242
 t77:=Tryz.underlying155
 a77:=Tryz.isAgg155
 z77:=Tryz.sizeOf155
 v77:=Tryz.zeroValue155}
def Tryz.keysA_ren:Go.Shelf.Ren:=⟨fun|7=>154|10=>169|n=>n,fun|23=>133|26=>3|3=>107|28=>218|0=>0|27=>217|33=>153|4=>4|n=>n,fun|n=>n⟩
theorem Tryz.keysA:Go.Proofs.SlLaysZI.n7 Tryz.prog Tryz.keysA_ren:={
 mixed:=by kernel_rfl
 f7:=⟨Tryz.f154.name,by decide,Tryz.func154.trans (congrArg some (by kernel_rfl))⟩
 f10:=⟨Tryz.f169.name,by decide,Tryz.func169.trans (congrArg some (by kernel_rfl))⟩
 t0:=Tryz.underlying0
 a0:=Tryz.isAgg0
 z0:=Tryz.sizeOf0
 v0:=Tryz.zeroValue0
 t4:=Tryz.underlying4
 a4:=Tryz.isAgg4
 z4:=Tryz.sizeOf4
 v4:=Tryz.zeroValue4
 t23:=Tryz.underlying133
 a23:=Tryz.isAgg133
 z23:=Tryz.sizeOf133
 v23:=Tryz.zeroValue133
 t26:=Tryz.underlying3
 a26:=Tryz.isAgg3
 z26:=Tryz.sizeOf3
 v26:=Tryz.zeroValue3
 t27:=Tryz.underlying217
 a27:=Tryz.isAgg217
 z27:=Tryz.sizeOf217
 v27:=Tryz.zeroValue217
 t28:=Tryz.underlying218
 a28:=Tryz.isAgg218
 z28:=Tryz.sizeOf218
 v28:=Tryz.zeroValue218
 t33:=Tryz.underlying153
 a33:=Tryz.isAgg153
 z33:=Tryz.sizeOf153
 v33:=Tryz.zeroValue153}
def Tryz.sortedA_ren:Go.Shelf.Ren:=⟨fun|6=>153|8=>167|9=>168|11=>178|13=>138|12=>179|23=>163|24=>164|14=>181|15=>182|16=>183|17=>184|18=>185|19=>186|20=>187|21=>188|22=>189|25=>190|26=>171|27=>172|28=>191|29=>192|30=>88|31=>193|n=>n,fun|26=>3|28=>218|24=>39|0=>0|3=>3|37=>166|48=>214|50=>36|4=>4|40=>222|39=>221|45=>95|5=>5|9=>9|51=>230|55=>233|57=>242|58=>155|33=>153|n=>n,fun|n=>n⟩
theorem Tryz.sortedA:Go.Proofs.SlLaysZI.n6 Tryz.prog Tryz.sortedA_ren:={
 mixed:=by kernel_rfl
 f6:=⟨Tryz.f153.name,by decide,Tryz.func153.trans (congrArg some (by kernel_rfl))⟩
 f8:=⟨Tryz.f167.name,by decide,Tryz.func167.trans (congrArg some (by kernel_rfl))⟩
 f11:=⟨Tryz.f178.name,by decide,Tryz.func178.trans (congrArg some (by kernel_rfl))⟩
 t0:=Tryz.underlying0
 a0:=Tryz.isAgg0
 z0:=Tryz.sizeOf0
 v0:=Tryz.zeroValue0
 t24:=Tryz.underlying39
 a24:=Tryz.isAgg39
 z24:=Tryz.sizeOf39
 v24:=Tryz.zeroValue39
 t26:=Tryz.underlying3
 a26:=Tryz.isAgg3
 z26:=Tryz.sizeOf3
 v26:=Tryz.zeroValue3
 t28:=Tryz.underlying218
 a28:=Tryz.isAgg218
 z28:=Tryz.sizeOf218
 v28:=Tryz.zeroValue218
 i26:=by kernel_rfl}
end Go.Proofs
namespace Go.Tn.Dk
open Go.Tn
def Lg.keys (l:Lg) (d:Dsk):List Nat:=(List.range (l.homes d)).filter fun k=>(l.H k).isSome
theorem nodup_le: ∀(n:Nat) (l:List Int),l.Nodup→(∀x∈l,0≤x∧x<n)→l.length≤n
 |0,l,_,h=>by
   cases l with
   |nil=>exact Nat.le_refl _
   |cons x r=>have:=h x List.mem_cons_self;omega
 |n+1,l,hd,h=>by
   by_cases hm:(n:Int)∈l
   · have h1:=nodup_le n (l.erase n) (hd.erase _) fun x hx=>by
       have h2:=(hd.mem_erase_iff).1 hx
       have:=h x h2.2
       omega
     rw [List.length_erase_of_mem hm] at h1
     omega
   · have:=nodup_le n l hd fun x hx=>by
       have:=h x hx
       have:x≠n:=fun e=>hm (e ▸ hx)
       omega
     omega
end Go.Tn.Dk
namespace Go.Proofs.YtldimgchpgoggaaGreat
open Go.RowKit Go.Tn Go.Maps Go.Sort Go.Shelf Go.Tn.Bt Go.Tn.Lp Go.Tn.Dk
theorem sortsA (m:Nat):AnyZI.SortsIn Tryz.prog Tryz.sortedA_ren Fence.wide m:=
 ⟨fun blk off cap ss W hH hblk hsz=>callsIn_wide.2 (Tryz.slices_Sort_int blk off cap ss W hH hblk hsz),
  fun p cap W=>callsIn_wide.2 (Tryz.slices_Sort_int_none p cap W)⟩
theorem keys_call (W:World) (m:Nat):Calls Tryz.prog 154 #[.map (some m)] W
   fun e w'=>e= .returned (.func (.func 169) #[] #[.pointer (some ⟨W.heap.size,0,none⟩)])∧w'=W.alloc (.cells #[.map (some m)] 133):=
 (callsIn_wide (n:=5)).1 (AnyZI.keys_in Tryz.keysA Fence.wide 5 trivial rfl (some m) W)
theorem sorted_call (w:World) (m clk:Nat) (L:Ents Int) (hb:w.heap[m]?=some (.map (ents encI L) clk)) (hwf:WF L clk) (hk: ∀e∈L,(Lit.int .i64 e.1).wf=true) (hl:L.length≤100000):
   Calls Tryz.prog 153 #[.func (.func 169) #[] #[.pointer (some ⟨w.heap.size,0,none⟩)]] (w.alloc (.cells #[.map (some m)] 133))
     fun e w'=> ∃v,e= .returned v∧w'.ownsRow w.heap.size 3 1 v L.length (((L.map (·.1)).mergeSort leI).map encZ)∧Below w.heap.size w w':=by
 obtain ⟨D0,hown,hperm,hsz⟩:=owns_ents Tryz.underlying3 hb hwf hk hl
 have hbl:m<w.heap.size:=lt_of_block hb
 have hal:Below w.heap.size w (w.alloc (.cells #[.map (some m)] 133)):=(Below.refl _ w).alloc (Nat.le_refl _) _
 have hmax:Maps.size D0≤maxLen:=by rw [hsz];unfold maxLen;omega
 have hbytes:Maps.size D0*8≤140737488355328:=by rw [hsz];omega
 have hseq:SeqGives Fence.wide 2 Tryz.prog 169 #[.pointer (some ⟨w.heap.size,0,none⟩)] encZ (fun ss=>ss.Perm (intKeys D0)) (Maps.size D0) (w.alloc (.cells #[.map (some m)] 133)):=
   AnyZI.keys_gives (ρ:=Tryz.keysA_ren) {Tryz.keysA with} Fence.wide _ trivial rfl (by omega) w.heap.size m L.length D0 _ (by simp) (by simp) (by
     obtain ⟨es,clock,hb,Ft,hs,hD⟩:=hown
     exact ⟨es,clock,(Below.heap_alloc _ _ m hbl).trans hb,Ft,hs,hD⟩)
 have cS:=AnyZI.sorted_in Tryz.sortedA Fence.wide 5 trivial trivial trivial trivial rfl (by omega) (sortsA _) (enters_of Tryz.func168 (by kernel_rfl) rfl) 169 #[.pointer (some ⟨w.heap.size,0,none⟩)] trivial (enters_of Tryz.func169 (by kernel_rfl) rfl) _ _ hmax hbytes _ hseq
 change CallsIn _ _ Tryz.prog 153 _ _ _ at cS
 refine ((callsIn_wide (n:=5)).1 cS).mono ?_
 rintro e w' ⟨v,ss,rfl,hS,hrow,_,hbl2⟩
 have hp2:ss.Perm (L.map (·.1)):=hS.trans hperm
 have hlen:ss.length=L.length:=by rw [hp2.length_eq,List.length_map]
 refine ⟨v,rfl,?_,hal.trans (hbl2.mono (by simp))⟩
 rw [←mergeSort_of_perm_i hp2, ←hlen]
 exact ownsRow_base_a hrow (by simp)
abbrev enI:Int→List Value:=fun z=> [.int .i64 z]
theorem hkeys_any {w:World} {F:Nat→Prop} {m clk:Nat} {L:Ents Int} {l:Lg} {d:Dsk} (hok:l.ok d) (hd:d.ok) (h:HAt w F m L clk l.H):
   Calls Tryz.prog 153 #[.func (.func 169) #[] #[.pointer (some ⟨w.heap.size,0,none⟩)]] (w.alloc (.cells #[.map (some m)] 133))
     fun e w'=> ∃v,e= .returned v∧LOut enI 1 3 w.heap.size w' v ((l.keys d).map fun (k:Nat)=>(k:Int))∧Below w.heap.size w w':=by
 have hlt: ∀e∈L,0≤e.1∧e.1<((l.homes d:Nat):Int):=fun e he=>by
   obtain ⟨k,hk,b,hb, -⟩:=h.key e he
   have:=(hok.H k b hb).1
   omega
 have hnd:(L.map (·.1)).Nodup:=by
   have:=h.wf.keys
   exact List.pairwise_map.2 (this.imp fun h=>h)
 have hh:l.homes d≤4096:=by unfold Lg.homes;have:=hd.hi;omega
 have hlen:L.length≤100000:=by
   have:=nodup_le (l.homes d) (L.map (·.1)) hnd fun x hx=>by
     obtain ⟨e,he,rfl⟩:=List.mem_map.1 hx
     exact hlt e he
   rw [List.length_map] at this
   omega
 have hkd:((l.keys d).map fun (k:Nat)=>(k:Int)).Nodup:=by
   refine List.pairwise_map.2 ((List.Pairwise.filter _ (List.nodup_range (n:=l.homes d))).imp fun h e=>h (by omega))
 have hperm:(L.map (·.1)).Perm ((l.keys d).map fun (k:Nat)=>(k:Int)):=by
   refine (List.perm_ext_iff_of_nodup hnd hkd).2 fun a=>⟨fun ha=> ?_,fun ha=> ?_⟩
   · obtain ⟨e,he,rfl⟩:=List.mem_map.1 ha
     obtain ⟨k,hk,b,hb, -⟩:=h.key e he
     refine List.mem_map.2 ⟨k,?_,hk.symm⟩
     unfold Lg.keys
     rw [List.mem_filter,List.mem_range,hb]
     exact ⟨(hok.H k b hb).1,rfl⟩
   · obtain ⟨k,hk,rfl⟩:=List.mem_map.1 ha
     unfold Lg.keys at hk
     rw [List.mem_filter] at hk
     obtain ⟨e,he,hek⟩:=h.all k (by
       intro e
       rw [e] at hk
       simp at hk)
     exact List.mem_map.2 ⟨e,he,hek⟩
 have hsrt:((L.map (·.1)).mergeSort leI)=(l.keys d).map fun (k:Nat)=>(k:Int):=by
   rw [mergeSort_of_perm_i hperm]
   refine List.mergeSort_of_pairwise ?_
   refine List.pairwise_map.2 ((List.Pairwise.filter _ (List.pairwise_lt_range (n:=l.homes d))).imp fun h=> ?_)
   simp only [leI,decide_eq_true_eq]
   omega
 refine (sorted_call w m clk L h.blk h.wf (fun e he=> ?_) hlen).mono ?_
 · have:=hlt e he
   simp [Lit.wf,IntKind.min,IntKind.max,IntKind.signed,IntKind.bits]
   omega
 · rintro e w' ⟨v,rfl,hrow,hb⟩
   rw [hsrt] at hrow
   have hll:L.length=((l.keys d).map fun (k:Nat)=>(k:Int)).length:=by rw [←hperm.length_eq,List.length_map]
   rw [hll] at hrow
   refine ⟨v,rfl,⟨?_,fun r hr=> ?_,hb.size⟩,hb⟩
   · have hfl: ∀zs:List Int,zs.flatMap enI=zs.map encZ:=fun zs=>by
       induction zs with
       |nil=>rfl
       |cons z zs ih=>
         rw [List.flatMap_cons,ih]
         rfl
     rw [hfl]
     exact ownsRow_base_a hrow (Nat.zero_le _)
   · rcases hrow.2 with ⟨hv,_⟩|⟨g,cap,cur,hv,h0,_⟩
     · rw [hv] at hr;cases hr
     · rw [hv] at hr;cases hr;exact h0
end Go.Proofs.YtldimgchpgoggaaGreat
namespace Go.Tn.Dk
open Go.Tn
def bringGo (l:Lg):List Nat→Dsk→Dsk×Nat
 | [],d=>(d.flush,d.dead)
 |i::r,d=>if d.dead≠0 then (d.write (2+l.n+i) ((l.H i).getD []),d.dead) else bringGo l r (d.write (2+l.n+i) ((l.H i).getD []))
def Lg.bring (l:Lg) (d:Dsk):Dsk×Nat:=bringGo l (l.keys d) d
theorem mem_keys {l:Lg} {d:Dsk} {k:Nat} (h:k∈l.keys d):k<l.homes d∧ ∃b,l.H k=some b:=by
 unfold Lg.keys at h
 rw [List.mem_filter,List.mem_range] at h
 exact ⟨h.1,Option.isSome_iff_exists.1 h.2⟩
end Go.Tn.Dk
namespace Go.Proofs.YtldimgchpgoggaaGreat
open Go.RowKit Go.Tn Go.Tn.Bt Go.Tn.Lp Go.Tn.Dk
theorem elI:ElT Tryz.prog 39 3 1 enI:=⟨Tryz.underlying39,by kernel_rfl,by decide,fun _=>rfl,fun x u hu=>by rw [List.mem_singleton.1 hu];rfl⟩
theorem write_Q (d:Dsk) (i:Nat) (b:List Nat):(d.write i b).Q.length≤d.Q.length+1:=by
 unfold Dsk.write
 split
 · rw [step_Q];omega
 · simp
set_option maxRecDepth 20000 in
set_option maxHeartbeats 4000000 in
theorem bring_any {w:World} {F FD:Nat→Prop} {g p:Nat} {l:Lg} {d:Dsk} (h:LAt w F g p l) (hd:DAt w FD p d) (hF: ∀b,F b→¬ FD b) (hok':l.ok d) (hQ:d.Q.length≤999990000):
   Calls Tryz.prog 135 #[.pointer (some ⟨g,0,none⟩)] w fun e w'=>e= .returned (.int .i64 ((l.bring d).2:Nat))∧ ∃FD',LAt w' F g p l∧DAt w' FD' p (l.bring d).1∧Mod FD w w'∧ ∀b,FD' b→FD b∨w.heap.size≤b:=by
 have hhi:=hd.ok.hi
 have hnd:=hok'.nd
 have hho:l.homes d=d.L.length-2-l.n:=rfl
 have HL:=Lib.hid h
 have HD:=Lib.hid hd
 have HFF:=Lib.hid hF
 have HOK:=Lib.hid hok'
 obtain ⟨m,L,clk,hb,hH,hmg, -⟩:=h.ex
 have c6:=cell_of (o:=6) hb rfl
 have hkc:=keys_call w m
 have hsc:=hkeys_any hok' hd.ok hH
 have hkl:(l.keys d).length≤4096:=by
   unfold Lg.keys
   exact Nat.le_trans (List.length_filter_le _ _) (by rw [List.length_range];omega)
 obtain ⟨R,hR⟩: ∃R,l.bring d=R:=⟨_,rfl⟩
 have HR:Hid (bringGo l (l.keys d) d=R):=Lib.hid hR
 rw [hR]
 have HH:=Lib.hid hH
 have HBK:=Lib.hid hb
 have HMG:=Lib.hid hmg
 have HKL:=Lib.hid hkl
 have HHO:=Lib.hid hho
 obtain ⟨ks,hks⟩: ∃ks,l.keys d=ks:=⟨_,rfl⟩
 have HKS:=Lib.hid hks
 rw [hks] at hsc HR HKL
 clear h hd hF hok' hb hH hmg hR hkl hks hho
 go_enter Tryz.func135,Tryz.ntmps135
 go_wp2_with (first
   |(go_at_call 154;refine hkc.mono ?_;rintro e w2 ⟨rfl,hw⟩;subst hw)
   |fail)
 refine hsc.mono ?_
 rintro e w2 ⟨v2,rfl,hO2,hb2⟩
 obtain ⟨a2,n2,c2,rfl⟩:=hO2.shape
 obtain ⟨_,_,hv2,_⟩:=hO2.sl elI.len
 obtain ⟨-,rfl, -⟩:a2=_∧n2=(ks.map fun (k:Nat)=>(k:Int)).length∧c2=_:=by simpa using hv2
 rw [List.length_map]
 rw [List.length_map] at hO2
 have HO2:=Lib.hid hO2
 have HB2:=Lib.hid hb2
 clear hsc hkc hO2 hb2 hv2 c6
 have hkl63:(ks.length:Int)≤4096:=by have:=HKL.out;omega
 go_wp2_with fail
 go_loopw [13] (fun iv wi=> ∃k:Nat,k≤ks.length∧iv= .int .i64 k∧Mod FD w2 wi∧ ∃(FDi:Nat→Prop) (di:Dsk),DAt wi FDi p di∧(∀b,FDi b→FD b∨w2.heap.size≤b)∧bringGo l (ks.drop k) di=R∧di.L.length=d.L.length∧di.Q.length≤d.Q.length+k) (fun iv _=>ks.length-(intOf iv).toNat)
 case atStart=>exact ⟨0,Nat.zero_le _,rfl,Mod.refl _ _,FD,d,HD.out.below HB2.out,fun b hb=> .inl hb,HR.out,rfl,Nat.le_refl _⟩
 case round=>
   obtain ⟨k,hk,rfl,hm,FDi,di,hDi,hFDi,hgo,hLi,hQi⟩:=hrel
   have hL2:=HL.out.below HB2.out
   have hwz:w.heap.size≤w2.heap.size:=HB2.out.size
   have hFlt:=HL.out.lt
   have hFDlt:=HD.out.lt
   have hLr:LAt wr F g p l:=hL2.mod hm HFF.out
   by_cases hkl:k<ks.length
   · have hkl':(k:Int)<(ks.length:Int):=by omega
     obtain ⟨i,hi⟩: ∃i,ks[k]?=some i:=⟨_,List.getElem?_eq_getElem hkl⟩
     have hmem:=List.mem_of_getElem? hi
     rw [←HKS.out] at hmem
     obtain ⟨hih,b,hib⟩:=mem_keys hmem
     have hdrop:ks.drop k=i::ks.drop (k+1):=by
       rw [List.drop_eq_getElem_cons hkl]
       rw [List.getElem?_eq_getElem hkl] at hi
       rw [Option.some.inj hi]
     rw [hdrop] at hgo
     have hHr:=HH.out.kept (w':=wr) (Nat.le_trans hwz hm.size) fun x hx=>(hm.block x (Nat.lt_of_lt_of_le (hFlt x hx) hwz) (HFF.out x hx)).trans (HB2.out.block x (hFlt x hx))
     obtain ⟨e0,he0,he1⟩:=hHr.all i (by rw [hib];simp)
     obtain ⟨i',hi1,b',hb',hrd,hown⟩:=hHr.key e0 he0
     obtain rfl:i'=i:=by omega
     rw [hib] at hb'
     obtain rfl:=Option.some.inj hb'
     have hget:=get_of_mem hHr.wf he0
     rw [he1] at hget
     obtain ⟨ao,cap,hav, -⟩:=hrd.sl
     have hsl:=hrd.sl
     rw [hav] at hget hsl hown
     have hgd:getD ((i':Nat):Int) L (.slice none 0 0)= .slice ao b.length cap:=by unfold getD;rw [hget];rfl
     have hsec:=(HOK.out.H i' b hib).2
     have hOi:=HO2.out
     have hxi:(ks.map fun (k:Nat)=>(k:Int))[k]?=some (i':Int):=by rw [List.getElem?_map,hi];rfl
     obtain ⟨b3,o3,cap3,hv3,hb3,hl3⟩:=(hOi.sl elI.len).at_ hxi
     obtain ⟨rfl,rfl⟩:a2=some ⟨b3,o3,none⟩∧c2=cap3:=by simpa using hv3
     have hb3w:w.heap.size≤b3:=hOi.lo b3 rfl
     have hl4:=lies_mod hl3 hm fun hx=>by have:=hFDlt b3 hx;omega
     have q0:wr.cell? ⟨b3,o3+k,none⟩=some (.int .i64 (i':Nat)):=by
       have:=hl4 0 (by simp)
       simpa using this
     have hfg:=HL.out.fg
     have hgw:=hFlt g hfg
     have hgb:=((hm.block g (Nat.lt_of_lt_of_le hgw hwz) (HFF.out g hfg)).trans (HB2.out.block g hgw)).trans HBK.out
     have hS:wr.drew.cell? ⟨g,0,none⟩=some (.pointer (some ⟨p,0,none⟩))∧wr.drew.cell? ⟨g,1,none⟩=some (.int .i64 (l.n:Nat))∧wr.drew.cell? ⟨g,6,none⟩=some (.map (some m))∧wr.drew.heap[m]?=some (.map (ents encI L) clk):=
       ⟨cell_of (w:=wr.drew) (o:=0) hgb rfl,cell_of (w:=wr.drew) (o:=1) hgb rfl,cell_of (w:=wr.drew) (o:=6) hgb rfl,hHr.blk⟩
     have hn4:l.n≤4096:=by have:=HOK.out.nd;omega
     have hio:=HHO.out
     have hi63:(i':Int)≤4096:=by omega
     have hu1:IntKind.i64.wrap (2+((l.n:Nat):Int))=2+((l.n:Nat):Int):=IntWalk.i64_in _ (by omega)
     have hu2:IntKind.i64.wrap (2+((l.n:Nat):Int)+(i':Nat))=((2+l.n+i':Nat):Int):=by rw [IntWalk.i64_in _ (by omega)];omega
     have hvF: ∀r,(Value.slice ao b.length cap).ownBlock=some r→¬ FDi r:=fun r hr hx=>by
       have h1:=(hown r hr).1
       rcases hFDi r hx with h|h
       · exact HFF.out r h1 h
       · have:=hFlt r h1;omega
     have hwd:=dwrite_any hDi.drew (2+l.n+i') (by omega) _ b (LSl.below hsl (Below.refl _ _).drew) hsec hvF (by have:=HKL.out;omega)
     have hL1:=write_L di (2+l.n+i') b
     have hQ1:=write_Q di (2+l.n+i') b
     have hgo':bringGo l (i'::ks.drop (k+1)) di=if di.dead≠0 then (di.write (2+l.n+i') b,di.dead) else bringGo l (ks.drop (k+1)) (di.write (2+l.n+i') b):=by
       simp only [bringGo,hib,Option.getD_some]
     rw [hgo'] at hgo
     have HGO:=Lib.hid hgo
     have HGD:=Lib.hid hgd
     have HM:=Lib.hid hm
     have HFDI:=Lib.hid hFDi
     have HLI:Hid ((di.write (2+l.n+i') b).L.length=d.L.length):=Lib.hid (by rw [hL1];exact hLi)
     have HQI:Hid ((di.write (2+l.n+i') b).Q.length≤d.Q.length+(k+1)):=Lib.hid (by omega)
     have HDI:=Lib.hid hDi
     clear hgo hgo' hgd hget hav hsl hrd hown he0 he1 hb' hib hih hmem hi hdrop hHr hLr hL2 hm hDi hFDi hLi hQi hsec hOi hxi hv3 hl3 hl4 hvF hio hL1 hQ1 hgb
     generalize hdw:di.write (2+l.n+i') b=dw at*
     have HDW:=Lib.hid hdw
     clear hdw
     go_upto_region 4 with fail
     refine wp_region_x (fun w'=>w'.cell? ⟨g,0,none⟩=some (.pointer (some ⟨p,0,none⟩))∧w'.cell? ⟨g,1,none⟩=some (.int .i64 (l.n:Nat))∧w'.cell? ⟨g,6,none⟩=some (.map (some m))∧w'.heap[m]?=some (.map (ents encI L) clk)) [(0,1),(1,1),(2,1),(3,0),(4,1),(5,1),(6,1),(7,0),(8,1),(9,1),(10,1),(11,1),(12,1),(13,1),(14,0),(15,1),(16,0),(17,2),(18,1)] (by kernel_rfl) (by kernel_rfl) (by intro d v c a w h;cases d<;>exact h) ?_
     iterate 3 (refine x_take rfl (fun K hK=> ?_);go_simp;refine hK _ ?_;clear hK K)
     refine x_read rfl hS (fun w' h=>exec_load1 ⟨⟨_,Tryz.underlying25,rfl⟩⟩ rfl h.1) ?_
     iterate 3 (refine x_take rfl (fun K hK=> ?_);go_simp;refine hK _ ?_;clear hK K)
     refine x_read rfl hS (fun w' h=>exec_load1 ⟨⟨_,Tryz.underlying3,rfl⟩⟩ rfl h.2.1) ?_
     iterate 6 (refine x_take rfl (fun K hK=> ?_);go_simp;refine hK _ ?_;clear hK K)
     refine x_read rfl hS (fun w' h=>exec_load1 ⟨⟨_,Tryz.underlying133,rfl⟩⟩ rfl h.2.2.1) ?_
     iterate 1 (refine x_take rfl (fun K hK=> ?_);go_simp;refine hK _ ?_;clear hK K)
     refine x_read rfl hS (fun w' h=>exec_lookup keyI Tryz.underlying133 zeroB h.2.2.2 rfl ((i':Nat):Int) rfl) ?_
     rw [HGD.out]
     refine x_show' rfl (fun K hK=> ?_)
     go_simp
     refine hwd.mono ?_
     rintro e w5 ⟨rfl,F5,hD5,hm5,hF5⟩
     have hFn: ∀x,F x→¬ FDi x:=fun x hx hx'=>by
       rcases HFDI.out x hx' with h|h
       · exact HFF.out x hx h
       · have:=hFlt x hx;omega
     have hwr:w2.heap.size≤wr.heap.size:=HM.out.size
     have hg5:=hm5.block g (by show g<wr.heap.size;omega) (hFn g hfg)
     have hfm:=HH.out.fm
     have hm6:=hm5.block m (by show m<wr.heap.size;have:=hFlt m hfm;omega) (hFn m hfm)
     have hS5:w5.cell? ⟨g,0,none⟩=some (.pointer (some ⟨p,0,none⟩))∧w5.cell? ⟨g,1,none⟩=some (.int .i64 (l.n:Nat))∧w5.cell? ⟨g,6,none⟩=some (.map (some m))∧w5.heap[m]?=some (.map (ents encI L) clk):=
       ⟨(World.cell?_of_block (a:=⟨g,0,none⟩) hg5).trans hS.1,(World.cell?_of_block (a:=⟨g,1,none⟩) hg5).trans hS.2.1,(World.cell?_of_block (a:=⟨g,6,none⟩) hg5).trans hS.2.2.1,hm6.trans hS.2.2.2⟩
     refine hK _ _ hS5 ?_
     clear hK K hS hS5 hg5 hm6 hwd hu1 hu2
     iterate 1 (refine x_take rfl (fun K hK=> ?_);go_simp;refine hK _ ?_;clear hK K)
     refine x_nil ?_
     have hm25:Mod FD w2 w5:=HM.out.trans (T:=FD) ((Mod.refl FDi wr).drew.trans (T:=FDi) hm5 (fun _ h=>h) fun _ _ h=>h) (fun _ h=>h) fun x hx h=>(HFDI.out x h).resolve_right (by omega)
     have hF5': ∀b,F5 b→FD b∨w2.heap.size≤b:=fun b hb=>by
       rcases hF5 b hb with h|h
       · exact HFDI.out b h
       · right
         have h:wr.heap.size≤b:=h
         omega
     have HD5:=Lib.hid hD5
     have HM25:=Lib.hid hm25
     have HF5:=Lib.hid hF5'
     clear hD5 hm25 hF5' hm5 hF5 hFn
     by_cases hdd:di.dead=0
     · have hne:((di.dead:Int) !=0)=false:=by rw [bne_eq_false_iff_eq];omega
       have HG2:Hid (bringGo l (ks.drop (k+1)) dw=R):=Lib.hid (by have:=HGO.out;rwa [if_neg (by omega)] at this)
       clear HGO hdd
       go_wp2
       go_roundw
       case rel=>exact ⟨k+1,by omega,by go_num,HM25.out,F5,dw,HD5.out,HF5.out,HG2.out,HLI.out,HQI.out⟩
       case measure=>simp [intOf];omega
     · have hne:((di.dead:Int) !=0)=true:=by rw [bne_iff_ne];omega
       have HG2:Hid ((dw,di.dead)=R):=Lib.hid (by have:=HGO.out;rwa [if_pos hdd] at this)
       clear HGO hdd
       go_wp2
       go_ret
       rw [←HG2.out]
       refine ⟨rfl,F5,(HL.out.below HB2.out).mod HM25.out HFF.out,HD5.out,?_,fun b hb=>(HF5.out b hb).imp id fun h=>by omega⟩
       exact (Mod.of_below HB2.out |>.mono (T:=FD) fun x hx h=>absurd hx (Nat.not_lt.2 h)).trans (T:=FD) HM25.out (fun _ h=>h) fun _ _ h=>h
   · obtain rfl:k=ks.length:=by omega
     rw [List.drop_length] at hgo
     have HG2:Hid ((di.flush,di.dead)=R):=Lib.hid hgo
     have hfg:=HL.out.fg
     have hgw:=hFlt g hfg
     have hgb:=((hm.block g (Nat.lt_of_lt_of_le hgw hwz) (HFF.out g hfg)).trans (HB2.out.block g hgw)).trans HBK.out
     have c0:=cell_of (o:=0) hgb rfl
     have hfl:=dflush_any hDi
     have HM:=Lib.hid hm
     have HFDI:=Lib.hid hFDi
     clear hgo hDi hm hFDi hLr hL2 hgb hLi hQi
     go_wp2_with fail
     refine hfl.mono ?_
     rintro e w5 ⟨rfl,hD5,hm5⟩
     have hm25:Mod FD w2 w5:=HM.out.trans (T:=FD) hm5 (fun _ h=>h) fun x hx h=>(HFDI.out x h).resolve_right (by omega)
     have HD5:=Lib.hid hD5
     have HM25:=Lib.hid hm25
     clear hD5 hm25 hm5 hfl c0
     go_wp2
     go_ret
     rw [←HG2.out]
     refine ⟨rfl,FDi,(HL.out.below HB2.out).mod HM25.out HFF.out,HD5.out,?_,fun b hb=>(HFDI.out b hb).imp id fun h=>by omega⟩
     exact (Mod.of_below HB2.out |>.mono (T:=FD) fun x hx h=>absurd hx (Nat.not_lt.2 h)).trans (T:=FD) HM25.out (fun _ h=>h) fun _ _ h=>h
end Go.Proofs.YtldimgchpgoggaaGreat
