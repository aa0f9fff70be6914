/- LW: a part of the evaluator,of its logic,or of the laws' walk in it. -/
import Derived.Test.YtdimchccafgdoaaGreatDoorLE
import Derived.Test.YtdimchccafgdoaaGreatDoorShelf
import Derived.ProofKit
import Derived.OwnWalk
import Derived.Maps.AppendAt
import Derived.Deep.RegionHeld3
import Derived.Deep.AppendLies
import Derived.Lib.AtoiErrMem
import Derived.Lib.LaidU8
import Derived.Stop.LaidErr
import Derived.LaidSub
import Derived.OpenShut
set_option linter.unusedVariables false
set_option linter.unusedSimpArgs false
set_option linter.unusedSectionVars false
section
set_option maxRecDepth 100000
namespace Go.Ev
open Go.Proofs Go.RowKit
structure PrintIn (G:World→Prop):Prop where
 below:∀ {w W:World},G w→Below w.heap.size w W→G W
 kinds:∀ w,G w→Calls Tryz.prog 16 #[] w fun e w' => ∃ mp g cap,e = .returned (.tuple #[mp, .slice (some ⟨g,0,none⟩) 12 cap])∧12≤cap∧w.heap.size≤g∧g<w'.heap.size∧KindsIn w' g∧Below w.heap.size w w'
 may:∀ w,G w → ∀ j r s,kindsT[j]? = some r→StOK s→Calls Tryz.prog 17 #[.agg (kval j r), .agg (sval s)] w fun e w'=>e = .returned (.bool (mayB r s))∧Below w.heap.size w w'
 itoa:∀ w,G w → ∀ n:Nat,n<10000→Calls Tryz.prog 18 #[.int .i64 (n:Int)] w fun e w'=>e = .returned (.string ⟨(decD n).toArray⟩)∧Below w.heap.size w w'
theorem isB_mono {T e:TypeId} {B b:Nat} {bs:List Value} {w w':World} (h:Lib.IsBuilder T e B b bs w) (hk:∀ k,k<w.heap.size→w'.heap[k]? = w.heap[k]?):Lib.IsBuilder T e B b bs w':=by
 have lt:∀ {k:Nat} {o:Obj},w.heap[k]? = some o→w'.heap[k]? = some o:=fun {k o} h1=>(hk k (Array.getElem?_eq_some_iff.1 h1).1).trans h1
 have key:∀ p,Lib.BuilderAt T e B b p bs w→Lib.BuilderAt T e B b p bs w':=fun p ⟨h1,v,h2,h3,h4⟩=>by
  refine ⟨h1,v,lt h2,⟨h3.1,h3.2.imp id ?_⟩,h4⟩
  rintro ⟨g,cap,cur,h5,h6,h7,h8⟩
  exact ⟨g,cap,cur,h5,h6,lt h7,h8⟩
 exact h.imp (key _) (key _)
theorem new_cells (w:World) (cs:Array Value) (t:TypeId) {i:Nat} {v:Value} (h:cs[i]? = some v):(w.alloc (.cells cs t)).cell? ⟨w.heap.size,i,none⟩=some v:=by
 rw [Lib.cell_of_heap (heap_alloc_new w _)]
 exact h
theorem toI_k {n:Nat} (h:n<12):toI .i64 n=(n:Int):=by
 match n,h with
 | 0,_ | 1,_ | 2,_ | 3,_ | 4,_ | 5,_ | 6,_ | 7,_ | 8,_ | 9,_ | 10,_ | 11,_=>rfl
 | n+12,h=>omega
theorem printW_bad {ss:List Stp} {i:Nat} {s:Stp} (h4:¬ 4096<ss.length) (hs:ss[i]? = some s) (h:mayS s=false):printP ss=([],2):=by
 rw [printP,if_neg h4,if_neg]
 intro hall
 have:=List.all_eq_true.1 hall s (List.mem_of_getElem? hs)
 rw [h] at this
 cases this
theorem kindsT_b {k:Nat} {r:KRow} (h:kindsT[k]? = some r):(r.b=neg1∧toI .i64 r.b = -1∨r.b<10000∧r.b≠neg1)∧r.a<10000∧r.w.length≤10∧(r.d=true→r.b≠neg1):=by
 have:∀ r ∈ kindsT,(r.b=neg1∧toI .i64 r.b = -1∨r.b<10000∧r.b≠neg1)∧r.a<10000∧r.w.length≤10∧(r.d=true→r.b≠neg1):=by decide
 exact this r (List.mem_of_getElem? h)
theorem within_lt {n m:Nat} (h:within n m=true) (hm:m<10000∨m=neg1):n<10000:=by
 simp only [within,Bool.and_eq_true,decide_eq_true_eq] at h
 obtain ⟨h1,h2⟩:=h
 rcases hm with hm | rfl
 ·rw [if_pos (by omega)] at h2;omega
 ·rw [if_neg (by decide)] at h2;omega
theorem mayB_nums {k:Nat} {r:KRow} {s:Stp} (hr:kindsT[k]? = some r) (h:mayB r s=true):s.a<10000∧s.b<10000∧(r.d=true→s.d.length≤32):=by
 obtain ⟨h1,h2,_⟩:=kindsT_b hr
 simp only [mayB,Bool.and_eq_true] at h
 obtain ⟨⟨h3,h4⟩,h5⟩:=h
 refine ⟨within_lt h4 (Or.inl h2),within_lt h5 (h1.symm.imp (fun h=>h.1) (fun h=>h.1)),fun hd => ?_⟩
 rw [if_pos hd] at h3
 simp only [Bool.and_eq_true,decide_eq_true_eq] at h3
 exact h3.1.2
theorem infoStr:(Tryz.prog.info? 9).map (fun i=>(i.zero,i.size,i.bytes))=some (some (.string ⟨#[]⟩),1,16):=by kernel_rfl
theorem own_mono {B:Nat} {e:TypeId} {sz:Nat} {v:Value} {n:Nat} {xs:List Value} {w w':World} (h:w.ownsRow B e sz v n xs) (hk:∀ k,k<w.heap.size→w'.heap[k]? = w.heap[k]?):w'.ownsRow B e sz v n xs:=by
 refine ⟨h.1,h.2.imp id ?_⟩
 rintro ⟨g,cap,cur,h5,h6,h7,h8⟩
 exact ⟨g,cap,cur,h5,h6,(hk g (Array.getElem?_eq_some_iff.1 h7).1).trans h7,h8⟩
theorem writeString (B b:Nat) (bs:List Value) (s:ByteArray) (w:World) (h:Lib.IsBuilder 53 5 B b bs w) (hlen:bs.length+s.size≤140737488355328) (hBw:B≤w.heap.size) :
  Calls Tryz.prog 19 #[.pointer (some ⟨b,0,none⟩), .string s] w fun e w'=>e = .returned (.tuple #[.int .i64 s.size, .nilIface])∧(Lib.BuilderAt 53 5 B b (.pointer (some ⟨b,0,none⟩)) (bs ++ Lib.strCells s) w'∧Below B w w'):=
 Any.Builder_WriteString (P:=Tryz.prog) { Tryz.lays156 with } Tryz.Builder_Extra_156 B b bs s w h hlen hBw
theorem addr_add0 (g j:Nat):(⟨g,0,none⟩:Addr).add j=⟨g,j,none⟩:=by
 unfold Addr.add
 split <;> simp_all
theorem cat_nl (l:List UInt8):((⟨l.toArray⟩:ByteArray) ++ ⟨#[10]⟩)=⟨(l ++ [10]).toArray⟩:=by
 apply ByteArray.ext
 simp
theorem decW_len (n:Nat):(decD n).length≤4:=by
 unfold decD
 repeat' split
 all_goals simp
theorem lineW_len {s:Stp} (h:mayS s=true):(lineOf s).length≤60:=by
 unfold mayS at h
 unfold lineOf
 cases hr:kindsT[s.k]? with
 | none=>rw [hr] at h;cases h
 | some r=>
  rw [hr] at h
  obtain ⟨_,_,hd⟩:=mayB_nums hr h
  obtain ⟨_,_,hw,_⟩:=kindsT_b hr
  have h1:=decW_len s.a
  have h2:=decW_len s.b
  have e1:(if r.b=neg1 then ([]:List UInt8) else 32 :: decD s.b).length≤5:=by split <;> simp <;> omega
  have e2:(if r.d=true then 32 :: s.d else []).length≤33:=by
   split
   ·rename_i h;have:=hd h;simp;omega
   ·simp
  simp only [List.length_append,List.length_cons,List.length_nil]
  omega
theorem flatW_len:∀ {l:List Stp},(∀ s ∈ l,mayS s=true)→(l.flatMap lineOf).length≤60 * l.length
 | [],_=>by simp
 | s :: l,h=>by
  have h1:=lineW_len (h s (by simp))
  have h2:=flatW_len (l:=l) fun x hx=>h x (List.mem_cons_of_mem _ hx)
  simp only [List.flatMap_cons,List.length_append,List.length_cons]
  omega
theorem toI_neg {n:Nat} (h:9223372036854775808≤n) (h2:n<18446744073709551616):toI .i64 n=(n:Int)-18446744073709551616:=by
 unfold toI IntKind.wrap
 simp [IntKind.signed,IntKind.bits]
 omega
set_option maxHeartbeats 8000000 in
theorem print_walk {G:World→Prop} (C:PrintIn G) (w:World) (hg:G w) (a:Option Addr) (cap:Nat) (ss:List Stp) (hlen:ss.length≤1000000) (hin:ss=[] ∨ ∃ c o,a=some ⟨c,o,none⟩∧c<w.heap.size∧ss.length≤cap∧StepsIn w c o ss) :
  Calls Tryz.prog 8 #[.slice a ss.length cap] w fun e w'=>e = .returned (.tuple #[.string ⟨(printP ss).1.toArray⟩, .int .i64 ((printP ss).2:Int)])∧Below w.heap.size w w':=by
 go_enter Tryz.func8,Tryz.ntmps8
 by_cases h4:4096<ss.length
 ·have h4':(4096:Int) < (ss.length:Int):=by omega
  go_wp2_with fail
  go_ret2
  rw [printP,if_pos h4]
  exact ⟨rfl,Below.refl _ _⟩
 ·have h4':¬ (4096:Int) < (ss.length:Int):=by omega
  go_wp2_with fail
  refine (C.kinds w hg).mono ?_
  rintro e w1 ⟨mp,g,kc,rfl,hkc,hg1,hg2,hK,hb1⟩
  go_wp2_with fail
  have hfr:=Lib.fresh_isBuilder 53 5 w1
  go_loopw [8,9,10,20,21,22,23,24,25,26,27,28,29,30,31,32,33,34,35,36,37,38,39,40,41,42,43,44,45,46,47,48,49,50,51,52,53,54,55,56,57,58,59,60,61,62,63,64,65,66,67,68,69,70,71,72,73,74,75] (fun _ _ _ v20 _ _ _ _ _ _ _ _ _ _ _ _ _ _ _ _ _ _ _ _ _ _ _ _ _ _ _ _ _ _ _ _ _ _ _ _ _ _ _ _ _ _ _ _ _ _ _ _ _ _ _ _ _ _ _ wr => ∃ i:Nat,i≤ss.length∧v20 = .int .i64 i∧(∀ s ∈ ss.take i,mayS s=true) ∧
   Lib.IsBuilder 53 5 w1.heap.size w1.heap.size (Lib.byteCells ((ss.take i).flatMap lineOf)) wr∧Below w1.heap.size w1 wr)
   (fun _ _ _ v20 _ _ _ _ _ _ _ _ _ _ _ _ _ _ _ _ _ _ _ _ _ _ _ _ _ _ _ _ _ _ _ _ _ _ _ _ _ _ _ _ _ _ _ _ _ _ _ _ _ _ _ _ _ _ _ _=>ss.length-(Go.Proofs.intOf v20).toNat)
  case atStart=>exact ⟨0,Nat.zero_le _,rfl,by simp,by simpa [Lib.byteCells] using hfr,(Below.refl _ _).alloc (Nat.le_refl _) _⟩
  case round=>
   obtain ⟨i,hi,rfl,hmay,hB,hbl⟩:=hrel
   clear hfr
   by_cases hlt:i<ss.length
   ·obtain ⟨c,o,rfl,hc,hcap,hst⟩:=hin.resolve_left (by intro e;subst e;simp at hlt)
    have hs:ss[i]? = some ss[i]:=List.getElem?_eq_getElem hlt
    generalize ss[i]=s at hs
    have d1:(i:Int) < (ss.length:Int):=by omega
    have d2:(0:Int)≤(i:Int):=by omega
    have hbw:Below w.heap.size w wr:=hb1.trans (hbl.mono hb1.size)
    have cw:∀ (off:Nat) (v:Value),w.cell? ⟨c,off,none⟩=some v→wr.cell? ⟨c,off,none⟩=some v:=fun off v h=>by rw [← h];simp only [World.cell?,hbw.block c hc]
    have k0:=cw _ _ (hst.k i s hs).1
    have k1:=cw _ _ (hst.a i s hs).1
    have k2:=cw _ _ (hst.b i s hs).1
    have k3:=cw _ _ (hst.d i s hs).1
    go_wp2_with fail
    have m0:=new_cells wr #[.int .i64 (toI .i64 s.k), .int .i64 (toI .i64 s.a), .int .i64 (toI .i64 s.b), .string ⟨s.d.toArray⟩] 24 (i:=0) (v := .int .i64 (toI .i64 s.k)) rfl
    have m1:=new_cells wr #[.int .i64 (toI .i64 s.k), .int .i64 (toI .i64 s.a), .int .i64 (toI .i64 s.b), .string ⟨s.d.toArray⟩] 24 (i:=1) (v := .int .i64 (toI .i64 s.a)) rfl
    have m2:=new_cells wr #[.int .i64 (toI .i64 s.k), .int .i64 (toI .i64 s.a), .int .i64 (toI .i64 s.b), .string ⟨s.d.toArray⟩] 24 (i:=2) (v := .int .i64 (toI .i64 s.b)) rfl
    have m3:=new_cells wr #[.int .i64 (toI .i64 s.k), .int .i64 (toI .i64 s.a), .int .i64 (toI .i64 s.b), .string ⟨s.d.toArray⟩] 24 (i:=3) (v := .string ⟨s.d.toArray⟩) rfl
    have hk2:∀ k,k<wr.heap.size→(wr.alloc (.cells #[.int .i64 (toI .i64 s.k), .int .i64 (toI .i64 s.a), .int .i64 (toI .i64 s.b), .string ⟨s.d.toArray⟩] 24)).heap[k]? = wr.heap[k]?:=Below.heap_alloc wr _
    have hs2:(wr.alloc (.cells #[.int .i64 (toI .i64 s.k), .int .i64 (toI .i64 s.a), .int .i64 (toI .i64 s.b), .string ⟨s.d.toArray⟩] 24)).heap.size=wr.heap.size+1:=World.size_alloc _ _
    have hbl2:=hbl.alloc hbl.size (.cells #[.int .i64 (toI .i64 s.k), .int .i64 (toI .i64 s.a), .int .i64 (toI .i64 s.b), .string ⟨s.d.toArray⟩] 24)
    have hB2:=isB_mono hB hk2
    clear k0 k1 k2 k3 hB hbl cw
    obtain ⟨n2,hn2⟩:∃ n2,wr.heap.size=n2:=⟨_,rfl⟩
    generalize (wr.alloc (.cells #[.int .i64 (toI .i64 s.k), .int .i64 (toI .i64 s.a), .int .i64 (toI .i64 s.b), .string ⟨s.d.toArray⟩] 24))=w2 at *
    rw [hn2] at *
    have hsok:StOK s:=⟨(hst.k i s hs).2,(hst.a i s hs).2,(hst.b i s hs).2,(hst.d i s hs).2⟩
    clear hst
    by_cases hkk:s.k<12
    ·have hr:kindsT[s.k]? = some kindsT[s.k]:=List.getElem?_eq_getElem hkk
     generalize kindsT[s.k]=r at hr
     obtain ⟨q0,q1,q2,q3,q4⟩:=hK _ _ hr
     have up:∀ (off:Nat) (v:Value),w1.cell? ⟨g,off,none⟩=some v→w2.cell? ⟨g,off,none⟩=some v:=fun off v h=>by rw [← h];simp only [World.cell?,hbl2.block g hg2]
     replace q0:=up _ _ q0
     replace q1:=up _ _ q1
     replace q2:=up _ _ q2
     replace q3:=up _ _ q3
     replace q4:=up _ _ q4
     have hki:=toI_k hkk
     rw [hki] at m0
     have e1:(0:Int)≤(s.k:Int):=by omega
     have e2:(s.k:Int)<12:=by omega
     have d3:decide ((s.k:Int)<0)=false:=by simp
     have d4:decide ((12:Int)≤(s.k:Int))=false:=by simp;omega
     have hmayC:∀ w',G w'→Calls Tryz.prog 17 #[.agg #[.int .i64 (s.k:Int), .string ⟨r.w.toArray⟩, .int .i64 (toI .i64 r.a), .int .i64 (toI .i64 r.b), .bool r.d], .agg #[.int .i64 (s.k:Int), .int .i64 (toI .i64 s.a), .int .i64 (toI .i64 s.b), .string ⟨s.d.toArray⟩]] w' fun e w''=>e = .returned (.bool (mayB r s))∧Below w'.heap.size w' w'':=fun w' hG=>by
      have:=C.may w' hG s.k r s hr hsok
      rw [kval,sval,hki] at this
      exact this
     have hbw2:Below w.heap.size w w2:=hb1.trans (hbl2.mono hb1.size)
     have hG2:G w2.drew:=C.below hg hbw2.drew
     have hn2':n2<w2.heap.size:=by omega
     have hg2':g<w2.heap.size:=by have:=hbl2.size;omega
     cases hmb:mayB r s with
     | false=>
      rw [hmb] at hmayC
      go_region_held3 (fun w'=>w'.cell? ⟨n2,0,none⟩=some (.int .i64 (s.k:Int))∧w'.cell? ⟨n2,1,none⟩=some (.int .i64 (toI .i64 s.a))∧w'.cell? ⟨n2,2,none⟩=some (.int .i64 (toI .i64 s.b))∧w'.cell? ⟨n2,3,none⟩=some (.string ⟨s.d.toArray⟩) ∧
        w'.cell? ⟨g,s.k * 5,none⟩=some (.int .i64 (s.k:Int))∧w'.cell? ⟨g,s.k * 5+1,none⟩=some (.string ⟨r.w.toArray⟩)∧w'.cell? ⟨g,s.k * 5+2,none⟩=some (.int .i64 (toI .i64 r.a)) ∧
        w'.cell? ⟨g,s.k * 5+3,none⟩=some (.int .i64 (toI .i64 r.b))∧w'.cell? ⟨g,s.k * 5+4,none⟩=some (.bool r.d))
       (first | go_keep | (refine ⟨?_, ?_, ?_, ?_, ?_, ?_, ?_, ?_, ?_⟩ <;> (rw [hb3.cell (by first | exact hn2' | exact hg2')];assumption)))
       (first | (go_at_call 17;refine (hmayC _ hG2).mono ?_;rintro e w3 ⟨rfl,hb3⟩))
      go_wp2_with fail
      go_ret2
      exact ⟨by rw [printW_bad h4 hs (by rw [mayS,hr];exact hmb)];rfl,hbw2.drew.trans (hb3.mono hbw2.size)⟩
     | true=>
      rw [hmb] at hmayC
      go_region_held3 (fun w'=>w'.cell? ⟨n2,0,none⟩=some (.int .i64 (s.k:Int))∧w'.cell? ⟨n2,1,none⟩=some (.int .i64 (toI .i64 s.a))∧w'.cell? ⟨n2,2,none⟩=some (.int .i64 (toI .i64 s.b))∧w'.cell? ⟨n2,3,none⟩=some (.string ⟨s.d.toArray⟩) ∧
        w'.cell? ⟨g,s.k * 5,none⟩=some (.int .i64 (s.k:Int))∧w'.cell? ⟨g,s.k * 5+1,none⟩=some (.string ⟨r.w.toArray⟩)∧w'.cell? ⟨g,s.k * 5+2,none⟩=some (.int .i64 (toI .i64 r.a)) ∧
        w'.cell? ⟨g,s.k * 5+3,none⟩=some (.int .i64 (toI .i64 r.b))∧w'.cell? ⟨g,s.k * 5+4,none⟩=some (.bool r.d))
       (first | go_keep | (refine ⟨?_, ?_, ?_, ?_, ?_, ?_, ?_, ?_, ?_⟩ <;> (rw [hb3.cell (by first | exact hn2' | exact hg2')];assumption)))
       (first | (go_at_call 17;refine (hmayC _ hG2).mono ?_;rintro e w3 ⟨rfl,hb3⟩))
      obtain ⟨ha,hb,hd⟩:=mayB_nums hr hmb
      have dn:∀ b off v,b<w2.heap.size→w2.cell? ⟨b,off,none⟩=some v→w3.cell? ⟨b,off,none⟩=some v:=fun b off v hb h=>by rw [hb3.cell (p:=⟨b,off,none⟩) hb];exact h
      replace m1:=dn _ _ _ hn2' m1
      replace m2:=dn _ _ _ hn2' m2
      replace m3:=dn _ _ _ hn2' m3
      replace m0:=dn _ _ _ hn2' m0
      replace q0:=dn _ _ _ hg2' q0
      replace q1:=dn _ _ _ hg2' q1
      replace q2:=dn _ _ _ hg2' q2
      replace q3:=dn _ _ _ hg2' q3
      replace q4:=dn _ _ _ hg2' q4
      rw [toI_64' (by omega)] at m1 m2
      have hB3:=isB_mono hB2 (w':=w3) fun k hk=>hb3.block k hk
      have hbl3:Below w1.heap.size w1 w3:=hbl2.drew.trans (hb3.mono hbl2.size)
      have hn3:n2<w3.heap.size:=Nat.lt_of_lt_of_le hn2' hb3.size
      have hw23:w2.heap.size≤w3.heap.size:=hb3.size
      clear dn hB2 hmayC hb3 up
      go_wp2_with fail
      have p1:=new_cells w3 #[.int .i64 (s.k:Int), .string ⟨r.w.toArray⟩, .int .i64 (toI .i64 r.a), .int .i64 (toI .i64 r.b), .bool r.d] 55 (i:=1) (v := .string ⟨r.w.toArray⟩) rfl
      have p3:=new_cells w3 #[.int .i64 (s.k:Int), .string ⟨r.w.toArray⟩, .int .i64 (toI .i64 r.a), .int .i64 (toI .i64 r.b), .bool r.d] 55 (i:=3) (v := .int .i64 (toI .i64 r.b)) rfl
      have p4:=new_cells w3 #[.int .i64 (s.k:Int), .string ⟨r.w.toArray⟩, .int .i64 (toI .i64 r.a), .int .i64 (toI .i64 r.b), .bool r.d] 55 (i:=4) (v := .bool r.d) rfl
      have hk4:∀ k,k<w3.heap.size→(w3.alloc (.cells #[.int .i64 (s.k:Int), .string ⟨r.w.toArray⟩, .int .i64 (toI .i64 r.a), .int .i64 (toI .i64 r.b), .bool r.d] 55)).heap[k]? = w3.heap[k]?:=Below.heap_alloc w3 _
      have hs4:(w3.alloc (.cells #[.int .i64 (s.k:Int), .string ⟨r.w.toArray⟩, .int .i64 (toI .i64 r.a), .int .i64 (toI .i64 r.b), .bool r.d] 55)).heap.size=w3.heap.size+1:=World.size_alloc _ _
      have hbl4:=hbl3.alloc hbl3.size (.cells #[.int .i64 (s.k:Int), .string ⟨r.w.toArray⟩, .int .i64 (toI .i64 r.a), .int .i64 (toI .i64 r.b), .bool r.d] 55)
      have hB4:=isB_mono hB3 hk4
      have dn:∀ b off v,b<w3.heap.size→w3.cell? ⟨b,off,none⟩=some v→(w3.alloc (.cells #[.int .i64 (s.k:Int), .string ⟨r.w.toArray⟩, .int .i64 (toI .i64 r.a), .int .i64 (toI .i64 r.b), .bool r.d] 55)).cell? ⟨b,off,none⟩=some v:=fun b off v hb h=>by rw [← h];simp only [World.cell?,hk4 b hb]
      replace m1:=dn _ _ _ hn3 m1
      replace m2:=dn _ _ _ hn3 m2
      replace m3:=dn _ _ _ hn3 m3
      clear m0 q0 q1 q2 q3 q4 hB3 hbl3 dn hk4 hg2' hn2' hbl2 hG2 d3 d4 e1 e2
      generalize (w3.alloc (.cells #[.int .i64 (s.k:Int), .string ⟨r.w.toArray⟩, .int .i64 (toI .i64 r.a), .int .i64 (toI .i64 r.b), .bool r.d] 55))=w4 at *
      have hn4:w3.heap.size<w4.heap.size:=by omega
      have hn24:n2<w4.heap.size:=by omega
      have hG4:G w4.drew:=C.below hg ((hb1.trans (hbl4.mono hb1.size)).drew)
      have hitoa:=fun w' hG=>C.itoa w' hG s.a ha
      go_region_held3 (fun w'=>w'.cell? ⟨w3.heap.size,1,none⟩=some (.string ⟨r.w.toArray⟩)∧w'.cell? ⟨n2,1,none⟩=some (.int .i64 (s.a:Int)))
       (first | go_keep | (refine ⟨?_, ?_⟩ <;> (rw [hb5.cell (by first | exact hn4 | exact hn24)];assumption)))
       (first | (go_at_call 18;refine (hitoa _ hG4).mono ?_;rintro e w5 ⟨rfl,hb5⟩))
      have hb45:w4.heap.size≤w5.heap.size:=hb5.size
      have hb15:w1.heap.size≤w5.heap.size:=Nat.le_trans hbl4.size hb45
      have own6:(w5.alloc (.cells #[.string ⟨r.w.toArray⟩, .string ⟨(decD s.a).toArray⟩] 9)).ownsRow w4.heap.size 9 1 (.slice (some ⟨w5.heap.size,0,none⟩) 2 2) 2 [.string ⟨r.w.toArray⟩, .string ⟨(decD s.a).toArray⟩]:=
       ⟨rfl,Or.inr ⟨w5.heap.size,2,_,rfl,hb45,heap_alloc_new w5 _,Nat.le_refl _,by decide,rfl,rfl⟩⟩
      have bel6:Below w4.heap.size w4 (w5.alloc (.cells #[.string ⟨r.w.toArray⟩, .string ⟨(decD s.a).toArray⟩] 9)):=((Below.refl _ w4).drew.trans hb5).alloc hb45 _
      clear m1 p1 hb5 hitoa hG4 hs4
      generalize (w5.alloc (.cells #[.string ⟨r.w.toArray⟩, .string ⟨(decD s.a).toArray⟩] 9))=w6 at *
      generalize w5.heap.size=n5 at *
      have h34:=hn4
      generalize w3.heap.size=n3 at *
      obtain ⟨i0,hi,hz0,hz1,hz2⟩:=info_parts infoStr
      obtain ⟨hrb,_,hrw,hrd⟩:=kindsT_b hr
      have zc6:∀ b off v,b<w4.heap.size→w4.cell? ⟨b,off,none⟩=some v→w6.cell? ⟨b,off,none⟩=some v:=fun b off v hb h=>by rw [bel6.cell (p:=⟨b,off,none⟩) hb];exact h
      have p3':=zc6 _ _ _ hn4 p3
      rcases hrb with ⟨hb1',hb2'⟩ | ⟨hb1',hb2'⟩
      ·have hd0:r.d=false:=by
        cases h:r.d with
        | false=>rfl
        | true=>exact absurd hb1' (hrd h)
       rw [hd0] at p4
       have d5:(toI .i64 r.b != -1)=false:=by rw [hb2'];rfl
       have p4':=zc6 _ _ _ hn4 p4
       clear m2 m3
       go_wp2_with fail
       obtain ⟨x,hx⟩:∃ x,x=r.w ++ 32 :: (decD s.a):=⟨_,rfl⟩
       have l1:=decW_len s.a
       have l2:=decW_len s.b
       have l3:=l2
       have hx60:x.length≤60:=by rw [hx];simp;omega
       have hline:lineOf s=x ++ [10]:=by rw [hx];unfold lineOf;rw [hr];simp [hb1',hd0,List.append_assoc]
       have hcs:∀ (j:Nat) (y:ByteArray),[(⟨(r.w).toArray⟩:ByteArray),(⟨(decD s.a).toArray⟩:ByteArray)][j]? = some y→w6.cell? ⟨n5,0+j,none⟩=some (.string y):=fun j y hy=>by
        have:=own6.cells (g:=n5) rfl j (.string y) (by
         match j,hy with
         | 0,hy=>cases hy;rfl
         | 1,hy=>cases hy;rfl)
        rw [Nat.zero_add];rw [addr_add0] at this;exact this
       have hj:Lib.join ([(⟨(r.w).toArray⟩:ByteArray),(⟨(decD s.a).toArray⟩:ByteArray)].map (·.data.toList)) [32]=x:=by rw [hx];simp [Lib.join,List.intercalate,List.intersperse]
       have hno:¬ 9223372036854775807<x.length+1:=by omega
       refine (Tryz.strings_Join n5 0 2 [(⟨(r.w).toArray⟩:ByteArray),(⟨(decD s.a).toArray⟩:ByteArray)] ⟨#[32]⟩ w6 hcs (own6.lt n5 rfl).2 (by simp) (by simp) (by rw [show (⟨#[32]⟩:ByteArray).data.toList=[32] from rfl,hj];omega)).mono ?_
       rw [show (⟨#[32]⟩:ByteArray).data.toList=[32] from rfl,hj]
       rintro e w10 ⟨rfl,hb10⟩
       clear hx hj hcs own6
       go_wp2_with fail
       rw [cat_nl]
       have hlt60:=flatW_len hmay
       have hB10:Lib.IsBuilder 53 5 w1.heap.size w1.heap.size (Lib.byteCells ((ss.take i).flatMap lineOf)) w10:=isB_mono (isB_mono hB4 fun k hk=>bel6.block k hk) fun k hk=>hb10.block k hk
       have hb1w:w1.heap.size≤w10.heap.size:=Nat.le_trans (Nat.le_trans hbl4.size bel6.size) hb10.size
       refine (writeString w1.heap.size w1.heap.size _ _ w10 hB10 (by
        rw [Lib.byteCells_length]
        rw [List.length_take] at hlt60
        show _+(x ++ [10]).toArray.size≤_
        rw [List.size_toArray,List.length_append]
        have:[(10:UInt8)].length=1:=rfl
        omega) hb1w).mono ?_
       rintro e w11 ⟨rfl,hba,hb11⟩
       go_wp2_with fail
       go_roundw
       case rel=>
        refine ⟨i+1,by omega,by go_num, ?_, ?_,(hbl4.trans (bel6.mono hbl4.size)).trans ((hb10.mono (Nat.le_trans hbl4.size bel6.size)).trans hb11)⟩
        ·intro y hy
         rw [List.take_add_one,hs] at hy
         rcases List.mem_append.1 hy with h | h
         ·exact hmay y h
         ·simp at h;subst h;rw [mayS,hr];exact hmb
        ·rw [List.take_add_one,hs]
         right
         simp only [Option.toList_some,List.flatMap_append,List.flatMap_cons,List.flatMap_nil,List.append_nil,Lib.byteCells_append,hline]
         simpa [Lib.strCells,Lib.byteCells] using hba
       case measure=>simp [Go.Proofs.intOf];omega
      ·have d5:(toI .i64 r.b != -1)=true:=by rw [toI_64' (by omega)];simp
       have m2':=zc6 _ _ _ hn24 m2
       go_wp2_with fail
       have hG6:G w6:=C.below hg (hb1.trans ((hbl4.trans (bel6.mono hbl4.size)).mono hb1.size))
       refine (C.itoa _ hG6 s.b hb).mono ?_
       rintro e w7 ⟨rfl,hb7⟩
       have own7:(w7.alloc (.cells #[.string ⟨(decD s.b).toArray⟩] 9)).ownsRow w4.heap.size 9 1 (.slice (some ⟨n5,0,none⟩) 2 2) 2 [.string ⟨r.w.toArray⟩, .string ⟨(decD s.a).toArray⟩]:=(own_mono own6 fun k hk=>hb7.block k hk).alloc _
       have hs46:=bel6.size
       have hs67:=hb7.size
       have hs14:=hbl4.size
       have bel7:Below w4.heap.size w4 (w7.alloc (.cells #[.string ⟨(decD s.b).toArray⟩] 9)):=(bel6.trans (hb7.mono hs46)).alloc (Nat.le_trans hs46 hs67) _
       clear own6 p3' m2' hG6
       go_wp2_with (at_builtin;refine wpList_append_own _ rfl _ _ 46 rfl w4.heap.size 9 i0 (.string ⟨#[]⟩) 1 16 Tryz.underlying46 hi hz0 hz1 hz2 rfl (by decide) _ 2 _ rfl own7 ⟨w7.heap.size,0,none⟩ 1 1 [.string ⟨(decD s.b).toArray⟩] rfl rfl ?zc1 ?zc2 ?zc3 ?zc4 ?zc5 ?_)
       case zc1=>exact World.news_of_block (cs := #[.string ⟨(decD s.b).toArray⟩]) (t:=9) (fr:=(0,0)) (heap_alloc_new w7 _)
       case zc2=>simp [Value.oneCell']
       case zc3=>decide
       case zc4=>decide
       case zc5=>rw [World.size_alloc];omega
       intro v8 w8 own8 hgrow _
       have bel8:Below w4.heap.size w4 w8:=bel7.grown hgrow (by rw [World.size_alloc];omega) (fun k hk=>by cases hk;exact hb45)
       clear own7 bel7 hgrow hb7
       obtain ⟨g8,cap8,cur8,rfl,_,_,hcap8,_,_,_⟩:=own8.2.resolve_left (by rintro ⟨_,h⟩;cases h)
       have zc8:∀ b off v,b<w4.heap.size→w4.cell? ⟨b,off,none⟩=some v→w8.cell? ⟨b,off,none⟩=some v:=fun b off v hb h=>by rw [bel8.cell (p:=⟨b,off,none⟩) hb];exact h
       cases hdd:r.d with
       | false=>
        rw [hdd] at p4
        have p4':=zc8 _ _ _ hn4 p4
        clear zc6 zc8 m2 m3
        go_wp2_with fail
        obtain ⟨x,hx⟩:∃ x,x=r.w ++ 32 :: (decD s.a ++ 32 :: (decD s.b)):=⟨_,rfl⟩
        have l1:=decW_len s.a
        have l2:=decW_len s.b
        have l3:=l2
        have hx60:x.length≤60:=by rw [hx];simp;omega
        have hline:lineOf s=x ++ [10]:=by rw [hx];unfold lineOf;rw [hr];simp [hb2',hdd,List.append_assoc]
        have hcs:∀ (j:Nat) (y:ByteArray),[(⟨(r.w).toArray⟩:ByteArray),(⟨(decD s.a).toArray⟩:ByteArray),(⟨(decD s.b).toArray⟩:ByteArray)][j]? = some y→w8.cell? ⟨g8,0+j,none⟩=some (.string y):=fun j y hy=>by
         have:=own8.cells (g:=g8) rfl j (.string y) (by
          match j,hy with
          | 0,hy=>cases hy;rfl
          | 1,hy=>cases hy;rfl
          | 2,hy=>cases hy;rfl)
         rw [Nat.zero_add];rw [addr_add0] at this;exact this
        have hj:Lib.join ([(⟨(r.w).toArray⟩:ByteArray),(⟨(decD s.a).toArray⟩:ByteArray),(⟨(decD s.b).toArray⟩:ByteArray)].map (·.data.toList)) [32]=x:=by rw [hx];simp [Lib.join,List.intercalate,List.intersperse]
        have hno:¬ 9223372036854775807<x.length+1:=by omega
        refine (Tryz.strings_Join g8 0 cap8 [(⟨(r.w).toArray⟩:ByteArray),(⟨(decD s.a).toArray⟩:ByteArray),(⟨(decD s.b).toArray⟩:ByteArray)] ⟨#[32]⟩ w8 hcs (own8.lt g8 rfl).2 (by simp) hcap8 (by rw [show (⟨#[32]⟩:ByteArray).data.toList=[32] from rfl,hj];omega)).mono ?_
        rw [show (⟨#[32]⟩:ByteArray).data.toList=[32] from rfl,hj]
        rintro e w10 ⟨rfl,hb10⟩
        clear hx hj hcs own8
        go_wp2_with fail
        rw [cat_nl]
        have hlt60:=flatW_len hmay
        have hB10:Lib.IsBuilder 53 5 w1.heap.size w1.heap.size (Lib.byteCells ((ss.take i).flatMap lineOf)) w10:=isB_mono (isB_mono hB4 fun k hk=>bel8.block k hk) fun k hk=>hb10.block k hk
        have hb1w:w1.heap.size≤w10.heap.size:=Nat.le_trans (Nat.le_trans hbl4.size bel8.size) hb10.size
        refine (writeString w1.heap.size w1.heap.size _ _ w10 hB10 (by
         rw [Lib.byteCells_length]
         rw [List.length_take] at hlt60
         show _+(x ++ [10]).toArray.size≤_
         rw [List.size_toArray,List.length_append]
         have:[(10:UInt8)].length=1:=rfl
         omega) hb1w).mono ?_
        rintro e w11 ⟨rfl,hba,hb11⟩
        go_wp2_with fail
        go_roundw
        case rel=>
         refine ⟨i+1,by omega,by go_num, ?_, ?_,(hbl4.trans (bel8.mono hbl4.size)).trans ((hb10.mono (Nat.le_trans hbl4.size bel8.size)).trans hb11)⟩
         ·intro y hy
          rw [List.take_add_one,hs] at hy
          rcases List.mem_append.1 hy with h | h
          ·exact hmay y h
          ·simp at h;subst h;rw [mayS,hr];exact hmb
         ·rw [List.take_add_one,hs]
          right
          simp only [Option.toList_some,List.flatMap_append,List.flatMap_cons,List.flatMap_nil,List.append_nil,Lib.byteCells_append,hline]
          simpa [Lib.strCells,Lib.byteCells] using hba
        case measure=>simp [Go.Proofs.intOf];omega
       | true=>
        rw [hdd] at p4
        have p4':=zc8 _ _ _ hn4 p4
        have m3':=zc8 _ _ _ hn24 m3
        have own9:(w8.alloc (.cells #[.string ⟨s.d.toArray⟩] 9)).ownsRow w4.heap.size 9 1 (.slice (some ⟨g8,0,none⟩) (2+1) cap8) (2+1) ([.string ⟨r.w.toArray⟩, .string ⟨(decD s.a).toArray⟩] ++ [.string ⟨(decD s.b).toArray⟩]):=own8.alloc _
        have hg84:w4.heap.size≤g8:=(own8.lt g8 rfl).1
        have hs48:=bel8.size
        have bel9:Below w4.heap.size w4 (w8.alloc (.cells #[.string ⟨s.d.toArray⟩] 9)):=bel8.alloc hs48 _
        clear zc6 zc8 m2 m3 own8
        go_wp2_with (at_builtin;refine wpList_append_own _ rfl _ _ 46 rfl w4.heap.size 9 i0 (.string ⟨#[]⟩) 1 16 Tryz.underlying46 hi hz0 hz1 hz2 rfl (by decide) _ (2+1) _ rfl own9 ⟨w8.heap.size,0,none⟩ 1 1 [.string ⟨s.d.toArray⟩] rfl rfl ?zc1 ?zc2 ?zc3 ?zc4 ?zc5 ?_)
        case zc1=>exact World.news_of_block (cs := #[.string ⟨s.d.toArray⟩]) (t:=9) (fr:=(0,0)) (heap_alloc_new w8 _)
        case zc2=>simp [Value.oneCell']
        case zc3=>decide
        case zc4=>decide
        case zc5=>rw [World.size_alloc];omega
        intro v9 w9 ownA hgrow _
        have belA:Below w4.heap.size w4 w9:=bel9.grown hgrow (by rw [World.size_alloc];omega) (fun k hk=>by cases hk;exact hg84)
        clear own9 bel9 hgrow
        obtain ⟨g9,cap9,cur9,rfl,_,_,hcap9,_,_,_⟩:=ownA.2.resolve_left (by rintro ⟨_,h⟩;cases h)
        go_wp2_with fail
        obtain ⟨x,hx⟩:∃ x,x=r.w ++ 32 :: (decD s.a ++ 32 :: (decD s.b ++ 32 :: (s.d))):=⟨_,rfl⟩
        have l1:=decW_len s.a
        have l2:=decW_len s.b
        have l3:=hd hdd
        have hx60:x.length≤60:=by rw [hx];simp;omega
        have hline:lineOf s=x ++ [10]:=by rw [hx];unfold lineOf;rw [hr];simp [hb2',hdd,List.append_assoc]
        have hcs:∀ (j:Nat) (y:ByteArray),[(⟨(r.w).toArray⟩:ByteArray),(⟨(decD s.a).toArray⟩:ByteArray),(⟨(decD s.b).toArray⟩:ByteArray),(⟨(s.d).toArray⟩:ByteArray)][j]? = some y→w9.cell? ⟨g9,0+j,none⟩=some (.string y):=fun j y hy=>by
         have:=ownA.cells (g:=g9) rfl j (.string y) (by
          match j,hy with
          | 0,hy=>cases hy;rfl
          | 1,hy=>cases hy;rfl
          | 2,hy=>cases hy;rfl
          | 3,hy=>cases hy;rfl)
         rw [Nat.zero_add];rw [addr_add0] at this;exact this
        have hj:Lib.join ([(⟨(r.w).toArray⟩:ByteArray),(⟨(decD s.a).toArray⟩:ByteArray),(⟨(decD s.b).toArray⟩:ByteArray),(⟨(s.d).toArray⟩:ByteArray)].map (·.data.toList)) [32]=x:=by rw [hx];simp [Lib.join,List.intercalate,List.intersperse]
        have hno:¬ 9223372036854775807<x.length+1:=by omega
        refine (Tryz.strings_Join g9 0 cap9 [(⟨(r.w).toArray⟩:ByteArray),(⟨(decD s.a).toArray⟩:ByteArray),(⟨(decD s.b).toArray⟩:ByteArray),(⟨(s.d).toArray⟩:ByteArray)] ⟨#[32]⟩ w9 hcs (ownA.lt g9 rfl).2 (by simp) hcap9 (by rw [show (⟨#[32]⟩:ByteArray).data.toList=[32] from rfl,hj];omega)).mono ?_
        rw [show (⟨#[32]⟩:ByteArray).data.toList=[32] from rfl,hj]
        rintro e w10 ⟨rfl,hb10⟩
        clear hx hj hcs ownA
        go_wp2_with fail
        rw [cat_nl]
        have hlt60:=flatW_len hmay
        have hB10:Lib.IsBuilder 53 5 w1.heap.size w1.heap.size (Lib.byteCells ((ss.take i).flatMap lineOf)) w10:=isB_mono (isB_mono hB4 fun k hk=>belA.block k hk) fun k hk=>hb10.block k hk
        have hb1w:w1.heap.size≤w10.heap.size:=Nat.le_trans (Nat.le_trans hbl4.size belA.size) hb10.size
        refine (writeString w1.heap.size w1.heap.size _ _ w10 hB10 (by
         rw [Lib.byteCells_length]
         rw [List.length_take] at hlt60
         show _+(x ++ [10]).toArray.size≤_
         rw [List.size_toArray,List.length_append]
         have:[(10:UInt8)].length=1:=rfl
         omega) hb1w).mono ?_
        rintro e w11 ⟨rfl,hba,hb11⟩
        go_wp2_with fail
        go_roundw
        case rel=>
         refine ⟨i+1,by omega,by go_num, ?_, ?_,(hbl4.trans (belA.mono hbl4.size)).trans ((hb10.mono (Nat.le_trans hbl4.size belA.size)).trans hb11)⟩
         ·intro y hy
          rw [List.take_add_one,hs] at hy
          rcases List.mem_append.1 hy with h | h
          ·exact hmay y h
          ·simp at h;subst h;rw [mayS,hr];exact hmb
         ·rw [List.take_add_one,hs]
          right
          simp only [Option.toList_some,List.flatMap_append,List.flatMap_cons,List.flatMap_nil,List.append_nil,Lib.byteCells_append,hline]
          simpa [Lib.strCells,Lib.byteCells] using hba
        case measure=>simp [Go.Proofs.intOf];omega
    ·have hno:mayS s=false:=by
      unfold mayS
      rw [List.getElem?_eq_none (by show 12≤s.k;omega)]
     have hend:(printP ss)=([],2):=printW_bad h4 hs hno
     have hbw2:Below w.heap.size w w2:=hb1.trans (hbl2.mono hb1.size)
     have hk64:=hsok.k
     clear m1 m2 m3 hB2
     by_cases hneg:s.k<9223372036854775808
     ·rw [toI_64' hneg] at m0
      have d3:decide ((s.k:Int)<0)=false:=by simp
      have d4:decide ((12:Int)≤(s.k:Int))=true:=by simp;omega
      refine wp_region_held_drew (S:=fun w'=>w'.cell? ⟨n2,0,none⟩=some (.int .i64 (s.k:Int))) (by kernel_rfl) (by go_keep) (fun hHeld => ?_)
      refine wpAnyH_take (i:=0) (v := .pointer (some ⟨n2,0,none⟩)) rfl (by kernel_rfl) (by kernel_rfl) (by kernel_rfl) (fun _ _ _ h=>h) (Or.inl ⟨by rfl,fun w hSw=>by go_simp⟩) hHeld ?_
      simp only [Act.put,List.setIfInBounds_toArray,List.set_cons_zero,List.set_cons_succ,List.getElem_toArray,List.getElem_cons_zero,List.getElem_cons_succ]
      refine wpAnyH_take (i:=1) (v := .int .i64 (s.k:Int)) rfl (by kernel_rfl) (by kernel_rfl) (by kernel_rfl) (fun _ _ _ h=>h) (Or.inl ⟨by rfl,fun w hSw=>by go_simp⟩) hHeld ?_
      simp only [Act.put,List.setIfInBounds_toArray,List.set_cons_zero,List.set_cons_succ,List.getElem_toArray,List.getElem_cons_zero,List.getElem_cons_succ]
      refine wpAnyH_take (i:=2) (v := .bool false) rfl (by kernel_rfl) (by kernel_rfl) (by kernel_rfl) (fun _ _ _ h=>h) (Or.inl ⟨by rfl,fun w hSw=>by go_simp⟩) hHeld ?_
      simp only [Act.put,List.setIfInBounds_toArray,List.set_cons_zero,List.set_cons_succ,List.getElem_toArray,List.getElem_cons_zero,List.getElem_cons_succ]
      refine wpAnyH_take (i:=3) (v := .bool false) rfl (by kernel_rfl) (by kernel_rfl) (by kernel_rfl) (fun _ _ _ h=>h) (Or.inl ⟨by rfl,fun w hSw=>by go_simp⟩) hHeld ?_
      simp only [Act.put,List.setIfInBounds_toArray,List.set_cons_zero,List.set_cons_succ,List.getElem_toArray,List.getElem_cons_zero,List.getElem_cons_succ]
      refine wpAnyH_take (i:=4) (v := .pointer (some ⟨n2,0,none⟩)) rfl (by kernel_rfl) (by kernel_rfl) (by kernel_rfl) (fun _ _ _ h=>h) (Or.inl ⟨by rfl,fun w hSw=>by go_simp⟩) hHeld ?_
      simp only [Act.put,List.setIfInBounds_toArray,List.set_cons_zero,List.set_cons_succ,List.getElem_toArray,List.getElem_cons_zero,List.getElem_cons_succ]
      refine wpAnyH_take (i:=5) (v := .int .i64 (s.k:Int)) rfl (by kernel_rfl) (by kernel_rfl) (by kernel_rfl) (fun _ _ _ h=>h) (Or.inl ⟨by rfl,fun w hSw=>by go_simp⟩) hHeld ?_
      simp only [Act.put,List.setIfInBounds_toArray,List.set_cons_zero,List.set_cons_succ,List.getElem_toArray,List.getElem_cons_zero,List.getElem_cons_succ]
      refine wpAnyH_take (i:=6) (v := .slice (some ⟨g,0,none⟩) 12 kc) rfl (by kernel_rfl) (by kernel_rfl) (by kernel_rfl) (fun _ _ _ h=>h) (Or.inl ⟨by rfl,fun w hSw=>by go_simp⟩) hHeld ?_
      simp only [Act.put,List.setIfInBounds_toArray,List.set_cons_zero,List.set_cons_succ,List.getElem_toArray,List.getElem_cons_zero,List.getElem_cons_succ]
      refine wpAnyH_take (i:=7) (v := .int .i64 12) rfl (by kernel_rfl) (by kernel_rfl) (by kernel_rfl) (fun _ _ _ h=>h) (Or.inl ⟨by rfl,fun w hSw=>by go_simp⟩) hHeld ?_
      simp only [Act.put,List.setIfInBounds_toArray,List.set_cons_zero,List.set_cons_succ,List.getElem_toArray,List.getElem_cons_zero,List.getElem_cons_succ]
      refine wpAnyH_take (i:=8) (v := .bool true) rfl (by kernel_rfl) (by kernel_rfl) (by kernel_rfl) (fun _ _ _ h=>h) (Or.inl ⟨by rfl,fun w hSw=>by go_simp⟩) hHeld ?_
      simp only [Act.put,List.setIfInBounds_toArray,List.set_cons_zero,List.set_cons_succ,List.getElem_toArray,List.getElem_cons_zero,List.getElem_cons_succ]
      refine wpAnyH_take (i:=9) (v := .bool true) rfl (by kernel_rfl) (by kernel_rfl) (by kernel_rfl) (fun _ _ _ h=>h) (Or.inl ⟨by rfl,fun w hSw=>by go_simp⟩) hHeld ?_
      simp only [Act.put,List.setIfInBounds_toArray,List.set_cons_zero,List.set_cons_succ,List.getElem_toArray,List.getElem_cons_zero,List.getElem_cons_succ]
      refine wpAnyH_take (i:=10) (v := .bool true) rfl (by kernel_rfl) (by kernel_rfl) (by kernel_rfl) (fun _ _ _ h=>h) (Or.inl ⟨by rfl,fun w hSw=>by go_simp⟩) hHeld ?_
      simp only [Act.put,List.setIfInBounds_toArray,List.set_cons_zero,List.set_cons_succ,List.getElem_toArray,List.getElem_cons_zero,List.getElem_cons_succ]
      refine wpAnyH_take (i:=11) (v:=undef) rfl (by kernel_rfl) (by kernel_rfl) (by kernel_rfl) (fun _ _ _ h=>h) (Or.inr ⟨by rfl,rfl⟩) hHeld ?_
      simp only [Act.put,List.setIfInBounds_toArray,List.set_cons_zero,List.set_cons_succ,List.getElem_toArray,List.getElem_cons_zero,List.getElem_cons_succ]
      refine wpAnyH_take (i:=12) (v:=undef) rfl (by kernel_rfl) (by kernel_rfl) (by kernel_rfl) (fun _ _ _ h=>h) (Or.inr ⟨by rfl,rfl⟩) hHeld ?_
      simp only [Act.put,List.setIfInBounds_toArray,List.set_cons_zero,List.set_cons_succ,List.getElem_toArray,List.getElem_cons_zero,List.getElem_cons_succ]
      refine wpAnyH_take (i:=13) (v:=undef) rfl (by kernel_rfl) (by kernel_rfl) (by kernel_rfl) (fun _ _ _ h=>h) (Or.inr ⟨by rfl,rfl⟩) hHeld ?_
      simp only [Act.put,List.setIfInBounds_toArray,List.set_cons_zero,List.set_cons_succ,List.getElem_toArray,List.getElem_cons_zero,List.getElem_cons_succ]
      refine wpAnyH_take (i:=14) (v:=undef) rfl (by kernel_rfl) (by kernel_rfl) (by kernel_rfl) (fun _ _ _ h=>h) (Or.inr ⟨by rfl,rfl⟩) hHeld ?_
      simp only [Act.put,List.setIfInBounds_toArray,List.set_cons_zero,List.set_cons_succ,List.getElem_toArray,List.getElem_cons_zero,List.getElem_cons_succ]
      refine wpAnyH_take (i:=15) (v:=undef) rfl (by kernel_rfl) (by kernel_rfl) (by kernel_rfl) (fun _ _ _ h=>h) (Or.inr ⟨by rfl,rfl⟩) hHeld ?_
      simp only [Act.put,List.setIfInBounds_toArray,List.set_cons_zero,List.set_cons_succ,List.getElem_toArray,List.getElem_cons_zero,List.getElem_cons_succ]
      refine wpAnyH_take (i:=16) (v:=undef) rfl (by kernel_rfl) (by kernel_rfl) (by kernel_rfl) (fun _ _ _ h=>h) (Or.inr ⟨by rfl,rfl⟩) hHeld ?_
      simp only [Act.put,List.setIfInBounds_toArray,List.set_cons_zero,List.set_cons_succ,List.getElem_toArray,List.getElem_cons_zero,List.getElem_cons_succ]
      refine wpAnyH_take (i:=17) (v:=undef) rfl (by kernel_rfl) (by kernel_rfl) (by kernel_rfl) (fun _ _ _ h=>h) (Or.inr ⟨by rfl,rfl⟩) hHeld ?_
      simp only [Act.put,List.setIfInBounds_toArray,List.set_cons_zero,List.set_cons_succ,List.getElem_toArray,List.getElem_cons_zero,List.getElem_cons_succ]
      refine wpAnyH_take (i:=18) (v:=undef) rfl (by kernel_rfl) (by kernel_rfl) (by kernel_rfl) (fun _ _ _ h=>h) (Or.inr ⟨by rfl,rfl⟩) hHeld ?_
      simp only [Act.put,List.setIfInBounds_toArray,List.set_cons_zero,List.set_cons_succ,List.getElem_toArray,List.getElem_cons_zero,List.getElem_cons_succ]
      refine wpAnyH_take (i:=19) (v := .bool true) rfl (by kernel_rfl) (by kernel_rfl) (by kernel_rfl) (fun _ _ _ h=>h) (Or.inl ⟨by rfl,fun w hSw=>by go_simp⟩) hHeld ?_
      simp only [Act.put,List.setIfInBounds_toArray,List.set_cons_zero,List.set_cons_succ,List.getElem_toArray,List.getElem_cons_zero,List.getElem_cons_succ]
      refine wpAnyH_done (by kernel_rfl) ?_ _
      go_wp2_with fail
      go_ret2
      exact ⟨rfl,hbw2.drew⟩
     ·have d3:decide (toI .i64 s.k<0)=true:=decide_eq_true (by rw [toI_neg (by omega) hk64];omega)
      refine wp_region_held_drew (S:=fun w'=>w'.cell? ⟨n2,0,none⟩=some (.int .i64 (toI .i64 s.k))) (by kernel_rfl) (by go_keep) (fun hHeld => ?_)
      refine wpAnyH_take (i:=0) (v := .pointer (some ⟨n2,0,none⟩)) rfl (by kernel_rfl) (by kernel_rfl) (by kernel_rfl) (fun _ _ _ h=>h) (Or.inl ⟨by rfl,fun w hSw=>by go_simp⟩) hHeld ?_
      simp only [Act.put,List.setIfInBounds_toArray,List.set_cons_zero,List.set_cons_succ,List.getElem_toArray,List.getElem_cons_zero,List.getElem_cons_succ]
      refine wpAnyH_take (i:=1) (v := .int .i64 (toI .i64 s.k)) rfl (by kernel_rfl) (by kernel_rfl) (by kernel_rfl) (fun _ _ _ h=>h) (Or.inl ⟨by rfl,fun w hSw=>by go_simp⟩) hHeld ?_
      simp only [Act.put,List.setIfInBounds_toArray,List.set_cons_zero,List.set_cons_succ,List.getElem_toArray,List.getElem_cons_zero,List.getElem_cons_succ]
      refine wpAnyH_take (i:=2) (v := .bool true) rfl (by kernel_rfl) (by kernel_rfl) (by kernel_rfl) (fun _ _ _ h=>h) (Or.inl ⟨by rfl,fun w hSw=>by go_simp⟩) hHeld ?_
      simp only [Act.put,List.setIfInBounds_toArray,List.set_cons_zero,List.set_cons_succ,List.getElem_toArray,List.getElem_cons_zero,List.getElem_cons_succ]
      refine wpAnyH_take (i:=3) (v := .bool true) rfl (by kernel_rfl) (by kernel_rfl) (by kernel_rfl) (fun _ _ _ h=>h) (Or.inl ⟨by rfl,fun w hSw=>by go_simp⟩) hHeld ?_
      simp only [Act.put,List.setIfInBounds_toArray,List.set_cons_zero,List.set_cons_succ,List.getElem_toArray,List.getElem_cons_zero,List.getElem_cons_succ]
      refine wpAnyH_take (i:=4) (v:=undef) rfl (by kernel_rfl) (by kernel_rfl) (by kernel_rfl) (fun _ _ _ h=>h) (Or.inr ⟨by rfl,rfl⟩) hHeld ?_
      simp only [Act.put,List.setIfInBounds_toArray,List.set_cons_zero,List.set_cons_succ,List.getElem_toArray,List.getElem_cons_zero,List.getElem_cons_succ]
      refine wpAnyH_take (i:=5) (v:=undef) rfl (by kernel_rfl) (by kernel_rfl) (by kernel_rfl) (fun _ _ _ h=>h) (Or.inr ⟨by rfl,rfl⟩) hHeld ?_
      simp only [Act.put,List.setIfInBounds_toArray,List.set_cons_zero,List.set_cons_succ,List.getElem_toArray,List.getElem_cons_zero,List.getElem_cons_succ]
      refine wpAnyH_take (i:=6) (v:=undef) rfl (by kernel_rfl) (by kernel_rfl) (by kernel_rfl) (fun _ _ _ h=>h) (Or.inr ⟨by rfl,rfl⟩) hHeld ?_
      simp only [Act.put,List.setIfInBounds_toArray,List.set_cons_zero,List.set_cons_succ,List.getElem_toArray,List.getElem_cons_zero,List.getElem_cons_succ]
      refine wpAnyH_take (i:=7) (v:=undef) rfl (by kernel_rfl) (by kernel_rfl) (by kernel_rfl) (fun _ _ _ h=>h) (Or.inr ⟨by rfl,rfl⟩) hHeld ?_
      simp only [Act.put,List.setIfInBounds_toArray,List.set_cons_zero,List.set_cons_succ,List.getElem_toArray,List.getElem_cons_zero,List.getElem_cons_succ]
      refine wpAnyH_take (i:=8) (v:=undef) rfl (by kernel_rfl) (by kernel_rfl) (by kernel_rfl) (fun _ _ _ h=>h) (Or.inr ⟨by rfl,rfl⟩) hHeld ?_
      simp only [Act.put,List.setIfInBounds_toArray,List.set_cons_zero,List.set_cons_succ,List.getElem_toArray,List.getElem_cons_zero,List.getElem_cons_succ]
      refine wpAnyH_take (i:=9) (v := .bool true) rfl (by kernel_rfl) (by kernel_rfl) (by kernel_rfl) (fun _ _ _ h=>h) (Or.inl ⟨by rfl,fun w hSw=>by go_simp⟩) hHeld ?_
      simp only [Act.put,List.setIfInBounds_toArray,List.set_cons_zero,List.set_cons_succ,List.getElem_toArray,List.getElem_cons_zero,List.getElem_cons_succ]
      refine wpAnyH_take (i:=10) (v := .bool true) rfl (by kernel_rfl) (by kernel_rfl) (by kernel_rfl) (fun _ _ _ h=>h) (Or.inl ⟨by rfl,fun w hSw=>by go_simp⟩) hHeld ?_
      simp only [Act.put,List.setIfInBounds_toArray,List.set_cons_zero,List.set_cons_succ,List.getElem_toArray,List.getElem_cons_zero,List.getElem_cons_succ]
      refine wpAnyH_take (i:=11) (v:=undef) rfl (by kernel_rfl) (by kernel_rfl) (by kernel_rfl) (fun _ _ _ h=>h) (Or.inr ⟨by rfl,rfl⟩) hHeld ?_
      simp only [Act.put,List.setIfInBounds_toArray,List.set_cons_zero,List.set_cons_succ,List.getElem_toArray,List.getElem_cons_zero,List.getElem_cons_succ]
      refine wpAnyH_take (i:=12) (v:=undef) rfl (by kernel_rfl) (by kernel_rfl) (by kernel_rfl) (fun _ _ _ h=>h) (Or.inr ⟨by rfl,rfl⟩) hHeld ?_
      simp only [Act.put,List.setIfInBounds_toArray,List.set_cons_zero,List.set_cons_succ,List.getElem_toArray,List.getElem_cons_zero,List.getElem_cons_succ]
      refine wpAnyH_take (i:=13) (v:=undef) rfl (by kernel_rfl) (by kernel_rfl) (by kernel_rfl) (fun _ _ _ h=>h) (Or.inr ⟨by rfl,rfl⟩) hHeld ?_
      simp only [Act.put,List.setIfInBounds_toArray,List.set_cons_zero,List.set_cons_succ,List.getElem_toArray,List.getElem_cons_zero,List.getElem_cons_succ]
      refine wpAnyH_take (i:=14) (v:=undef) rfl (by kernel_rfl) (by kernel_rfl) (by kernel_rfl) (fun _ _ _ h=>h) (Or.inr ⟨by rfl,rfl⟩) hHeld ?_
      simp only [Act.put,List.setIfInBounds_toArray,List.set_cons_zero,List.set_cons_succ,List.getElem_toArray,List.getElem_cons_zero,List.getElem_cons_succ]
      refine wpAnyH_take (i:=15) (v:=undef) rfl (by kernel_rfl) (by kernel_rfl) (by kernel_rfl) (fun _ _ _ h=>h) (Or.inr ⟨by rfl,rfl⟩) hHeld ?_
      simp only [Act.put,List.setIfInBounds_toArray,List.set_cons_zero,List.set_cons_succ,List.getElem_toArray,List.getElem_cons_zero,List.getElem_cons_succ]
      refine wpAnyH_take (i:=16) (v:=undef) rfl (by kernel_rfl) (by kernel_rfl) (by kernel_rfl) (fun _ _ _ h=>h) (Or.inr ⟨by rfl,rfl⟩) hHeld ?_
      simp only [Act.put,List.setIfInBounds_toArray,List.set_cons_zero,List.set_cons_succ,List.getElem_toArray,List.getElem_cons_zero,List.getElem_cons_succ]
      refine wpAnyH_take (i:=17) (v:=undef) rfl (by kernel_rfl) (by kernel_rfl) (by kernel_rfl) (fun _ _ _ h=>h) (Or.inr ⟨by rfl,rfl⟩) hHeld ?_
      simp only [Act.put,List.setIfInBounds_toArray,List.set_cons_zero,List.set_cons_succ,List.getElem_toArray,List.getElem_cons_zero,List.getElem_cons_succ]
      refine wpAnyH_take (i:=18) (v:=undef) rfl (by kernel_rfl) (by kernel_rfl) (by kernel_rfl) (fun _ _ _ h=>h) (Or.inr ⟨by rfl,rfl⟩) hHeld ?_
      simp only [Act.put,List.setIfInBounds_toArray,List.set_cons_zero,List.set_cons_succ,List.getElem_toArray,List.getElem_cons_zero,List.getElem_cons_succ]
      refine wpAnyH_take (i:=19) (v := .bool true) rfl (by kernel_rfl) (by kernel_rfl) (by kernel_rfl) (fun _ _ _ h=>h) (Or.inl ⟨by rfl,fun w hSw=>by go_simp⟩) hHeld ?_
      simp only [Act.put,List.setIfInBounds_toArray,List.set_cons_zero,List.set_cons_succ,List.getElem_toArray,List.getElem_cons_zero,List.getElem_cons_succ]
      refine wpAnyH_done (by kernel_rfl) ?_ _
      go_wp2_with fail
      go_ret2
      exact ⟨rfl,hbw2.drew⟩
   ·have hi':i=ss.length:=by omega
    subst hi'
    rw [List.take_length] at hmay hB
    have hend:printP ss=(ss.flatMap lineOf,0):=by rw [printP,if_neg h4,if_pos (List.all_eq_true.2 hmay)]
    go_wp2_with fail
    refine (Tryz.Builder_String_any w1.heap.size w1.heap.size (ss.flatMap lineOf) wr hB hbl.size).mono ?_
    rintro e w2 ⟨rfl,hb2⟩
    go_wp2_with fail
    go_ret2
    first
     | exact ⟨rfl,hb1.trans ((hbl.trans hb2).mono hb1.size)⟩
     | exact ⟨by rw [hend];rfl,hb1.trans ((hbl.trans hb2).mono hb1.size)⟩
     | fail
end Go.Ev
end
section
set_option maxRecDepth 100000
namespace Go.Ev
open Go.Proofs Go.RowKit
theorem indexOK:IndexOK Tryz.prog 59 where
 hfn:=⟨_,_,Tryz.func59,rfl,rfl⟩
 call s w:=Tryz.strings_Index_one s 10 w
theorem getBang (s:ByteArray) (i:Nat):s.get! i=s.data.toList.getD i 0:=by
 cases s with
 | mk d=>
  show d[i]! = d.toList.getD i 0
  rw [List.getD,Array.getElem?_toList,getElem!_def]
  cases d[i]? <;> rfl
theorem decode_eq (s:ByteArray) (h:0<s.size):Lib.decodeGo s=decL s.data.toList:=by
 unfold Lib.decodeGo decL
 rw [if_neg (by omega),Lib.decode_at,getBang,getBang,getBang,getBang]
 rfl
theorem decodeOK:DecodeOK Tryz.prog 58 decL where
 hfn:=⟨_,_,Tryz.func58,rfl,rfl⟩
 lt s hs:=by
  match s,hs with
  | [],hs=>exact absurd rfl hs
  | b :: l,_=>
   by_cases hb:b.toNat<128
   ·rw [decL_ok.low b l hb]
    exact ⟨by show b.toNat<_;omega,by simp⟩
   ·exact ⟨(decL_ok.rune b l (by omega)).2,(decL_ok.size b l (by omega)).2⟩
 call base w0 rho H w s hp h0 hs:=by
  have:=Tryz.utf8_DecodeRuneInString s w hp.gl.1.1
  rw [decode_eq s h0] at this
  exact this
def oddR (x:Nat):Bool:=decide (x<33) || decide (126<x)
theorem odd_gives (x:Nat) (hx:x≤1114111) (w:World):FnGives Tryz.prog 33 #[] #[encR x] (.bool (oddR x)) w:=by
 unfold FnGives
 by_cases h1:x<33
 ·have d1:((x:Int)<33):=by omega
  go_enter Tryz.func33,Tryz.ntmps33
  go_wp2_with fail
  go_ret
  refine ⟨?_,0,rfl⟩
  simp [oddR,h1]
 ·have d1:¬ ((x:Int)<33):=by omega
  go_enter Tryz.func33,Tryz.ntmps33
  go_wp2_with fail
  go_ret
  refine ⟨?_,0,rfl⟩
  simp [oddR,h1]
  omega
theorem drop_cons {l:List UInt8} {i:Nat} (h:i<l.length):l.drop i=l.getD i 0 :: l.drop (i+1):=by
 rw [List.drop_eq_getElem_cons h,List.getD,List.getElem?_eq_getElem h]
 rfl
theorem idx_any (s:ByteArray):∀ (f pos:Nat),s.size≤f+pos→decide (0≤Lib.idxFuncFrom oddR true s f pos)=(s.data.toList.drop pos).any oddB:=by
 have hsz:s.data.toList.length=s.size:=by rw [Array.length_toList];rfl
 intro f
 induction f with
 | zero=>
  intro pos h
  rw [List.drop_eq_nil_of_le (by omega)]
  rfl
 | succ f ih=>
  intro pos h
  unfold Lib.idxFuncFrom
  by_cases hp:pos<s.size
  ·rw [if_pos hp,drop_cons (by omega),List.any_cons]
   have hd:Utf8.decode s pos=decL (s.data.toList.drop pos):=by
    unfold decL
    rw [Lib.decode_at,getBang,getBang,getBang,getBang,List.length_drop,hsz]
    simp only [List.getD,List.getElem?_drop,Nat.add_zero]
   rw [hd,drop_cons (by omega)]
   generalize s.data.toList.getD pos 0=b
   by_cases hb:b.toNat<128
   ·rw [decL_ok.low b _ hb]
    have ho:oddR b.toNat=oddB b:=rfl
    show decide (0≤if oddR b.toNat=true then (pos:Int) else Lib.idxFuncFrom oddR true s f (pos+1))=_
    rw [ho]
    cases oddB b with
    | true=>rw [if_pos rfl];simp
    | false=>rw [if_neg (by simp),ih (pos+1) (by omega)];simp
   ·have h1:=(decL_ok.rune b (s.data.toList.drop (pos+1)) (by omega)).1
    have ho:oddB b=true:=by simp only [oddB,Bool.or_eq_true,decide_eq_true_eq];omega
    rw [if_pos (by simp only [oddR,Bool.or_eq_true,decide_eq_true_eq];omega),ho]
    simp
  ·rw [if_neg hp,List.drop_eq_nil_of_le (by omega)]
   rfl
theorem containsOK:ContainsOK Tryz.prog 32 33 where
 hfn:=⟨_,_,Tryz.func32,rfl,rfl⟩
 call w s hs:=by
  have:=Tryz.strings_ContainsFunc_runes 33 #[] (fun args w=>run_callFunc Tryz.func33 rfl rfl args w) oddR s w fun W x hx _=>odd_gives x hx W
  rw [Lib.idxFunc,idx_any s s.size 0 (by omega),List.drop_zero] at this
  exact this
theorem toI_mod64 {v:Int} (h0 : -9223372036854775808≤v) (h1:v≤9223372036854775807):toI .i64 (v % 18446744073709551616).toNat=v:=by
 unfold toI IntKind.wrap
 simp [IntKind.signed,IntKind.bits]
 omega
theorem cell_of_row {w:World} {g i:Nat} {cs:Array Value} {e:TypeId} {fr:Nat × Nat} {v:Value} (h:w.heap[g]? = some (.cells cs e fr)) (hi:cs[i]? = some v):w.cell? ⟨g,i,none⟩=some v:=by
 rw [Lib.cell_of_heap h]
 exact hi
theorem powIs {w:World} (hg:GQ w):Lib.TabIs Tryz.prog w "internal/strconv.uint64pow10" .u64 Lib.pow10Tab:=by
 obtain ⟨e,fr,h⟩:=hg.2.1
 unfold Lib.TabIs World.var?
 rw [show Tryz.prog.globalNamed "internal/strconv.uint64pow10" = some 1 by kernel_rfl,Option.bind_some,h]
theorem GQ_below {w W:World} (hg:GQ w) (hb:Below w.heap.size w W):GQ W:=GQ_same hg fun c hc=>hb.block c ((GQ_lt hg).2 c hc)
theorem itoa_any {w:World} (hg:GQ w) (v:Int) (h0 : -9223372036854775808≤v) (h1:v≤9223372036854775807) :
  Calls Tryz.prog 18 #[.int .i64 v] w fun e w'=>e = .returned (.string ⟨(Lib.itoa v).toArray⟩)∧Below w.heap.size w w':=
 (Tryz.strconv_Itoa v h0 h1 w (powIs hg)).mono fun e w' h=>by
  obtain ⟨h1,k,os,rfl⟩:=h
  exact ⟨h1,rfl,rfl,rfl,by simp [Sort.grow],fun j hj=>by simp [Sort.grow,Array.getElem?_append_left hj]⟩
theorem number_walk (l:List UInt8) (w:World) (hg:GQ w) (hs:l.length≤16777216) :
  Calls Tryz.prog 45 #[.string ⟨l.toArray⟩] w fun e w'=>e = .returned (.int .i64 (toI .i64 (numL l)))∧Below w.heap.size w w':=by
 cases hend:Lib.atoiAll l with
 | ok v=>
  obtain ⟨b1,b2⟩:=Lib.atoiAll_bounds hend
  go_enter Tryz.func45,Tryz.ntmps45
  go_wp2_with fail
  refine (Tryz.strconv_Atoi_ok ⟨l.toArray⟩ (by show l.toArray.size≤_;rw [List.size_toArray];omega) v hend w).mono ?_
  rintro e w1 ⟨rfl,hw⟩
  have hb1:Below w.heap.size w w1:=by
   rcases hw with rfl | ⟨t,rfl⟩
   ·exact Below.refl _ _
   ·exact Lib.bytesWorld_below _ _ _
  clear hw
  go_wp2_with fail
  refine (itoa_any (GQ_below hg hb1) v (by omega) (by omega)).mono ?_
  rintro e w2 ⟨rfl,hb2⟩
  by_cases hc:Lib.itoa v=l
  ·have hn:numL l=(v % 18446744073709551616).toNat:=by unfold numL;rw [hend];exact if_pos hc
   rw [hc]
   clear hc hend
   go_wp2_with fail
   go_ret
   exact ⟨by rw [hn];exact congrArg (fun z=>Ending.returned (.int .i64 z)) (toI_mod64 b1 b2).symm,hb1.trans (hb2.mono hb1.size)⟩
  ·have hn:numL l=18446744073709551615:=by unfold numL;rw [hend];exact if_neg hc
   have d6:(Lib.itoa v == l)=false:=beq_eq_false_iff_ne.2 hc
   clear hend
   go_wp2_with fail
   go_ret
   exact ⟨by rw [hn];rfl,hb1.trans (hb2.mono hb1.size)⟩
 | range=>
  have hn:numL l=18446744073709551615:=by unfold numL;rw [hend]
  obtain ⟨tp,x,e,fr,hv⟩:=hg.2.2.2.1
  have hc:=cell_of_row hv (i:=0) rfl
  go_enter Tryz.func45,Tryz.ntmps45
  go_wp2_with fail
  refine (Tryz.strconv_Atoi_range ⟨l.toArray⟩ (by show l.toArray.size≤_;rw [List.size_toArray];omega) hend _ w hc (Or.inr ⟨_,_,rfl⟩)).mono ?_
  rintro e w1 ⟨N,rfl,_,_,hb1⟩
  clear hend hc hv
  go_wp2_with fail
  go_ret
  exact ⟨by rw [hn];rfl,hb1⟩
 | _=>
  have hn:numL l=18446744073709551615:=by unfold numL;rw [hend]
  obtain ⟨tp,x,e,fr,hv⟩:=hg.2.2.1
  have hc:=cell_of_row hv (i:=0) rfl
  have hA:Calls Tryz.prog 61 #[.string ⟨l.toArray⟩] w fun e w' => ∃ N,e = .returned (.tuple #[.int .i64 0, .iface 149 (.pointer (some ⟨N,0,none⟩))])∧w.heap.size≤N∧w'.heap[N]? = some (.cells #[.string ⟨#[65,116,111,105]⟩, .string ⟨l.toArray⟩, .iface tp x] 159 (0,0))∧Below w.heap.size w w':=
   Any.strconv_Atoi_syntax Tryz.laysC172 ⟨l.toArray⟩ (by show l.toArray.size≤_;rw [List.size_toArray];omega) hend _ w hc (Or.inr ⟨_,_,rfl⟩)
  go_enter Tryz.func45,Tryz.ntmps45
  go_wp2_with fail
  refine hA.mono ?_
  rintro e w1 ⟨N,rfl,_,_,hb1⟩
  clear hend hc hv hA
  go_wp2_with fail
  go_ret
  exact ⟨by rw [hn];rfl,hb1⟩
theorem numberOK:NumberOK Tryz.prog 45 numL where
 hfn:=⟨_,_,Tryz.func45,rfl,rfl⟩
 lt:=numL_ok.lt
 call base w0 rho H w s hp hs:=number_walk s.data.toList w hp.gl.1 (by rw [Array.length_toList];exact hs)
theorem as0OK:As0OK Tryz.prog 27 where
 hfn:=⟨_,_,Tryz.func27,rfl,rfl⟩
 call w x:=by
  go_enter Tryz.func27,Tryz.ntmps27
  go_wp2
  go_ret
  exact ⟨rfl,rfl⟩
theorem printOK {t:Nat→Option FnE} {dec:List UInt8→Nat × Nat} {num:List UInt8→Nat} (hm:Tryz.prog.follows .mixedOrders=true) (ht:TabOK Tryz.prog t) (T:TCode t) (S:SNat t dec num):PrintOK Tryz.prog 8 where
 hfn:=⟨_,_,Tryz.func8,rfl,rfl⟩
 call base w0 rho H w a cap ss hp hlen hin:=by
  refine print_walk (G:=GQ) ⟨GQ_below,fun w hg=>kinds_sem hm ht T (GQ_lt hg),fun w hg j r s hr hs=>may_sem hm ht T S (GQ_lt hg) hr hs,fun w hg n hn => ?_⟩ w hp.gl.1 a cap ss hlen hin
  have:=itoa_any hg (n:Int) (by omega) (by omega)
  rw [decD_itoa hn] at this
  exact this
end Go.Ev
end
section
set_option maxRecDepth 100000
namespace Go.Ev
open Go.Proofs Go.RowKit Go.Lib
theorem row_of_var {P:Program} {w:World} {n:String} {g:Nat} {cs:Array Value} (hg:P.globalNamed n=some g) (h:w.var? P n=some cs):∃ e fr,w.heap[g]? = some (.cells cs e fr):=by
 unfold World.var? at h
 rw [hg,Option.bind_some] at h
 split at h
 ·rename_i cs' e fr hc
  cases h
  exact ⟨e,fr,hc⟩
 ·cases h
theorem noInt_map {k:IntKind} {zs:List Int} (hk:k ≠ .i64):noInt (zs.map fun z=>Value.int k z).toArray:=fun i z h=>by
 rw [List.getElem?_toArray,List.getElem?_map] at h
 obtain ⟨q,_,h2⟩:=Option.map_eq_some_iff.1 h
 cases h2
 exact hk rfl
theorem iface_of_reads {P:Program} {w:World} {n nm:String} {d:DataW Unit} {g:Nat} {ti:TypeId} {ms:Array (String × TypeId)} (h:VarReads P w n (.iface nm d)) (hg:P.globalNamed n=some g) (ht:(P.globals[g]?).map (·.type)=some ti) (hi:P.underlying ti=some (.interface ms)):∃ t x,w.var? P n=some #[.iface t x]:=by
 obtain ⟨g',t',cs,fuel,p,hg',ht',hv,hd⟩:=h
 obtain rfl:=Option.some.inj (hg.symm.trans hg')
 obtain rfl:=Option.some.inj (ht.symm.trans ht')
 cases fuel with
 | zero=>simp [DataW.trod] at hd
 | succ m=>
  unfold DataW.trod at hd
  rw [hi] at hd
  obtain ⟨l⟩:=cs
  match l,hd with
  | [],hd=>simp at hd
  | [v],hd=>
   cases v <;> simp at hd
   exact ⟨_,_,hv⟩
  | _ :: _ :: _,hd=>simp at hd
theorem gq_of_reads {w:World} (h1:VarReads Tryz.prog w "unicode/utf8.first" firstData) (h2:VarReads Tryz.prog w "unicode/utf8.acceptRanges" acceptData) (h3:VarReads Tryz.prog w "internal/strconv.uint64pow10" (tabData .u64 pow10Tab))
  (h4:∃ t x,w.var? Tryz.prog "strconv.ErrSyntax" = some #[.iface t x]) (h5:∃ t x,w.var? Tryz.prog "strconv.ErrRange" = some #[.iface t x]) (h6:w.var? Tryz.prog "errors.errorType" = some #[.iface 109 (.agg #[.pointer (some ⟨9,31,none⟩)])]):GQ w:=by
 have hU:Lib.Utf8Tabs 3 4 w:=
  utf8Tabs_of_reads (ρ:=Tryz.lays197_ren) { Tryz.lays197 with } ⟨by kernel_rfl,by kernel_rfl,by kernel_rfl,by kernel_rfl,by kernel_rfl,by kernel_rfl,by kernel_rfl⟩ h1 h2
 obtain ⟨g1,t1,cs1,fuel1,p1,hg1,ht1,hv1,hd1⟩:=h1
 obtain ⟨g2,t2,cs2,fuel2,p2,hg2,ht2,hv2,hd2⟩:=h2
 obtain ⟨g3,t3,cs3,fuel3,p3,hg3,ht3,hv3,hd3⟩:=h3
 obtain ⟨t4,x4,hv4⟩:=h4
 obtain ⟨t5,x5,hv5⟩:=h5
 obtain rfl:=Option.some.inj ((show Tryz.prog.globalNamed "unicode/utf8.first" = some 3 by kernel_rfl).symm.trans hg1)
 obtain rfl:=Option.some.inj ((show Tryz.prog.globalNamed "unicode/utf8.acceptRanges" = some 4 by kernel_rfl).symm.trans hg2)
 obtain rfl:=Option.some.inj ((show Tryz.prog.globalNamed "internal/strconv.uint64pow10" = some 1 by kernel_rfl).symm.trans hg3)
 obtain ⟨e1,fr1,zr1⟩:=row_of_var hg1 hv1
 obtain ⟨e2,fr2,zr2⟩:=row_of_var hg2 hv2
 obtain ⟨e3,fr3,zr3⟩:=row_of_var hg3 hv3
 obtain ⟨e4,fr4,zr4⟩:=row_of_var (g:=5) (by kernel_rfl) hv4
 obtain ⟨e6,fr6,zr6⟩:=row_of_var (g:=0) (by kernel_rfl) h6
 obtain ⟨e5,fr5,zr5⟩:=row_of_var (g:=6) (by kernel_rfl) hv5
 obtain rfl:=Option.some.inj ((show (Tryz.prog.globals[3]?).map (·.type)=some 141 by kernel_rfl).symm.trans ht1)
 obtain rfl:=Option.some.inj ((show (Tryz.prog.globals[4]?).map (·.type)=some 144 by kernel_rfl).symm.trans ht2)
 obtain rfl:=Option.some.inj ((show (Tryz.prog.globals[1]?).map (·.type)=some 135 by kernel_rfl).symm.trans ht3)
 have zc1:=cells_of_tab Tryz.underlying141 Tryz.underlying5 (by kernel_rfl) (by kernel_rfl) hd1
 have zc3:=cells_of_tab Tryz.underlying135 Tryz.underlying126 (by kernel_rfl) (by kernel_rfl) hd3
 have a1:cs1=(firstTab.map fun z=>Value.int .u8 z).toArray:=by rw [← zc1]
 have a3:cs3=(pow10Tab.map fun z=>Value.int .u64 z).toArray:=by rw [← zc3]
 subst a1
 subst a3
 obtain ⟨xs,m,_,_,hlen,_,_⟩:=DataW.trod_array Tryz.underlying144 hd2
 have h32:cs2.size=32:=by
  rw [← Array.length_toList,hlen]
  kernel_rfl
 refine ⟨hU,⟨e3,fr3,zr3⟩,⟨_,_,e4,fr4,zr4⟩,⟨_,_,e5,fr5,zr5⟩,fun c hc => ?_,by rw [Lib.cell_of_heap zr6];rfl⟩
 rcases hc with rfl | rfl | rfl | rfl | rfl | rfl
 ·exact ⟨_,_,_,zr1,noInt_map (by decide)⟩
 ·refine ⟨_,_,_,zr2,fun i z hz => ?_⟩
  have hi:i<32:=by have:=(Array.getElem?_eq_some_iff.1 hz).1;omega
  have hcell:=World.var?_cell hg2 hv2 i
  rw [hz] at hcell
  obtain ⟨u1,u2⟩:=hU.2 (i / 2) (by omega)
  rcases (by omega:i=2 * (i / 2)∨i=2 * (i / 2)+1) with hi2 | hi2
  ·rw [← hi2,hcell] at u1;cases u1
  ·rw [← hi2,hcell] at u2;cases u2
 ·exact ⟨_,_,_,zr3,noInt_map (by decide)⟩
 ·exact ⟨_,_,_,zr4,fun i z hz=>by
   match i,hz with
   | 0,hz=>cases hz
   | n+1,hz=>simp at hz⟩
 ·exact ⟨_,_,_,zr5,fun i z hz=>by
   match i,hz with
   | 0,hz=>cases hz
   | n+1,hz=>simp at hz⟩
 ·exact ⟨_,_,_,zr6,fun i z hz=>by
   match i,hz with
   | 0,hz=>cases hz
   | n+1,hz=>simp at hz⟩
end Go.Ev
end
