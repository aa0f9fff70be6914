/- frame: Pack and Size. -/
import Derived.Test.YtabnemidjklolaaGreatDoorFrame
import Derived.OwnWalk
import Derived.Maps.AppendAt
open Nat renaming le_refl→YC
open List renaming eq_nil_of_length_eq_zero→YY,replicate→Yc,drop_eq_nil_of_le→WO,length_pos_iff→Wc
set_option maxRecDepth 100000
namespace Go.Proofs.YtabnemidjklolaaGreatDoor
open Go.RowKit Go.Wd
/-- A sector's bytes,filled up. -/
def ik (l:List UInt8):List UInt8:=l.take 32 ++ (Yc 32 0).drop l.length
/-- Sectors of bytes. -/
def nQ:Nat->List UInt8->List (List UInt8)
 | 0,_=>[]
 | n+1,l=>if l=[] then [] else ik l :: nQ n (l.drop 32)
def chunks(l:List UInt8):List (List UInt8):=nQ l.length l
theorem CD(n:Nat):∀(m:Nat)(l:List UInt8),l.length<=n->n<=m->nQ m l=nQ n l:=by induction n with|zero=>intro m l h _;obtain rfl:l=[]:=YY (by omega);cases m<;>simp[nQ]|succ n ih=>intro m l h hm;cases m with|zero=>omega|succ m=>
   simp only[nQ];split;.rfl
   .rw[ih m _ (by simp;omega) (by omega)]
theorem ld:chunks []=[]:=rfl
theorem ij{l:List UInt8}(h:l≠[]):chunks l=ik l::chunks (l.drop 32):=by have hl:0<l.length:=Wc.2 h;unfold chunks;obtain⟨n,hn⟩:∃n,l.length=n+1:=⟨l.length-1,by omega⟩;rw[hn];simp only[nQ,if_neg h];rw[CD (l.drop 32).length n _ (YC _) (by simp;omega)]
theorem Jr(l:List UInt8):∀n,l.length<=32*n->(chunks l).length<=n:=by suffices∀k(l:List UInt8),l.length<=k->∀n,l.length<=32*n->(chunks l).length<=n from this _ l (YC _);intro k;induction k with|zero=>intro l hk n _;obtain rfl:l=[]:=YY (by omega);simp[ld]|succ k ih=>
  intro l hk n hn;by_cases h:l=[];.subst h;simp[ld]
  .have hl:0<l.length:=Wc.2 h;rw[ij h];have:=ih (l.drop 32) (by simp;omega) (n-1) (by simp;omega);simp;omega
theorem BZ(l:List UInt8):(ik l).length=32:=by simp[ik];omega
def aam:Array Value:=#[Value.int IntKind.u8 0,Value.int IntKind.u8 0,Value.int IntKind.u8 0,Value.int IntKind.u8 0,Value.int IntKind.u8 0,Value.int IntKind.u8 0,Value.int IntKind.u8 0,Value.int IntKind.u8 0,Value.int IntKind.u8 0,Value.int IntKind.u8 0,Value.int IntKind.u8 0,Value.int IntKind.u8 0,Value.int IntKind.u8 0,Value.int IntKind.u8 0,Value.int IntKind.u8 0,Value.int IntKind.u8 0,Value.int IntKind.u8 0,Value.int IntKind.u8 0,Value.int IntKind.u8 0,Value.int IntKind.u8 0,Value.int IntKind.u8 0,Value.int IntKind.u8 0,Value.int IntKind.u8 0,Value.int IntKind.u8 0,Value.int IntKind.u8 0,Value.int IntKind.u8 0,Value.int IntKind.u8 0,Value.int IntKind.u8 0,Value.int IntKind.u8 0,Value.int IntKind.u8 0,Value.int IntKind.u8 0,Value.int IntKind.u8 0]
theorem adJ:aam=dj (Yc 32 0):=rfl
/-- Strings as cells. -/
def strs (ls:List (List UInt8)):List Value:=ls.map λl=>Value.string (gh l)
theorem PU(ls:List (List UInt8))(l:List UInt8):strs (ls++[l])=strs ls++[.string (gh l)]:=by simp[strs]
theorem agb(ls:List (List UInt8)):(strs ls).length=ls.length:=by simp[strs]
theorem Vr(l:List UInt8)(w:World)(hs:l.length<=10000000):Calls Tryz.prog 121 #[.string (gh l)] w λe w'=>e=.returned (.int .i64 ((l.length+37)/32:Nat))/\w=w':=by go_enter Tryz.func121,Tryz.ntmps121;go_wp2_with fail;go_ret;exact⟨congrArg (λn=>Ending.returned (.int .i64 n)) (by omega),rfl⟩
theorem X5:(Tryz.prog.info? 9).map (λi=>(i.zero,i.size,i.bytes))=some (some (.string (gh [])),1,16):=by kernel_rfl
theorem ahI:(Tryz.prog.info? 5).map (λi=>(i.zero,i.size,i.bytes))=some (some (.int .u8 0),1,1):=by kernel_rfl
theorem adU(l:List UInt8)(w:World)(hs:8192<l.length)(hs2:l.length<=100000000000):Calls Tryz.prog 110 #[.string (gh l)] w λe w'=>e=.returned (.tuple #[.slice none 0 0,.int .i64 3])/\w=w':=by go_enter Tryz.func110,Tryz.ntmps110;go_wp2_with fail;go_ret2;exact⟨rfl,rfl⟩
theorem UT(l:List UInt8)(w:World)(hs:l.length<=8192):Calls Tryz.prog 110 #[.string (gh l)] w λe w'=>∃v,e=.returned (.tuple #[v,.int .i64 0])/\w'.ownsRow w.heap.size 9 1 v (chunks (eX l)).length (strs (chunks (eX l)))/\Below w.heap.size w w':=by
 obtain⟨i0,hi,hz0,hz1,hz2⟩:=info_parts X5;have hwl:(eX l).length=l.length+6:=by simp[eX,rh,nZ];omega
 go_enter Tryz.func110,Tryz.ntmps110;go_wp2_with fail;refine(Cl l _ (by omega)).mono ?_;rintro e w1⟨rfl,hb1⟩;generalize hall:eX l=all at*;have Hall:=Lib.hid hall;clear hall;go_wp2_with fail;have hcl:(chunks all).length<=300:=Jr all 300 (by omega);go_loopw[4,5,6,7,13,14,15,16,17,18,19,20,21,22,23,24,25](λv s _ _ _ _ _ _ _ _ _ _ _ _ _ _ _ wr=>∃(done:List (List UInt8))(left:List UInt8),chunks all=done++chunks left/\left.length<=all.length/\s=.string (gh left)/\wr.ownsRow w.heap.size 9 1 v done.length (strs done)/\Below w.heap.size w wr)(λ_ s _ _ _ _ _ _ _ _ _ _ _ _ _ _ _ _=>match s with|.string b=>b.size|_=>0);case atStart=>exact⟨[],all,rfl,YC _,rfl,World.ownsRow_nil _ _ _ _,hb1⟩
 case round=>
  obtain⟨done,left,hch,hll,rfl,hown,hB⟩:=hrel;by_cases hl0:left=[];.subst hl0;rw[ld,List.append_nil]at hch;have Hch:=Lib.hid hch;clear hch;go_wp2_with fail;go_ret2;exact⟨_,rfl,by rw[Hall.out,Hch.out];exact hown,hB⟩
  .have hl2:(!left.isEmpty)=true:=by simpa using hl0
   have hpos:0<left.length:=Wc.2 hl0;rw[ij hl0]at hch;have hdl:done.length<300:=by rw[hch]at hcl;simp at hcl;omega
   have Hch:=Lib.hid hch;clear hch;obtain⟨n,Hn⟩:∃n,Hid (min left.length 32=n):=⟨_,rfl⟩;have hn1:n<=left.length:=by have:=Hn.out;omega
   have hn0:0<n:=by have:=Hn.out;omega
   have hcp:Sem.run Tryz.prog (Builtin.copy_ #[102,9] 3 #[Value.slice (some {block:=wr.heap.size,off:=0}) 32 32,Value.string (gh left)]) (wr.alloc (Obj.cells #[Value.int IntKind.u8 0,Value.int IntKind.u8 0,Value.int IntKind.u8 0,Value.int IntKind.u8 0,Value.int IntKind.u8 0,Value.int IntKind.u8 0,Value.int IntKind.u8 0,Value.int IntKind.u8 0,Value.int IntKind.u8 0,Value.int IntKind.u8 0,Value.int IntKind.u8 0,Value.int IntKind.u8 0,Value.int IntKind.u8 0,Value.int IntKind.u8 0,Value.int IntKind.u8 0,Value.int IntKind.u8 0,Value.int IntKind.u8 0,Value.int IntKind.u8 0,Value.int IntKind.u8 0,Value.int IntKind.u8 0,Value.int IntKind.u8 0,Value.int IntKind.u8 0,Value.int IntKind.u8 0,Value.int IntKind.u8 0,Value.int IntKind.u8 0,Value.int IntKind.u8 0,Value.int IntKind.u8 0,Value.int IntKind.u8 0,Value.int IntKind.u8 0,Value.int IntKind.u8 0,Value.int IntKind.u8 0,Value.int IntKind.u8 0] 206))=.ok (goInt (n:Nat)) (wr.alloc (Obj.cells (dj (ik left)) 206)):=by rw[<-Hn.out];exact DU wr 102 9 3 5 32 32 left (Yc 32 0) 206 Tryz.underlying102 (by kernel_rfl) rfl
   have hcs:Sem.run Tryz.prog (convert 102 9 (Value.slice (some {block:=wr.heap.size,off:=0}) 32 32)) (wr.alloc (Obj.cells (dj (ik left)) 206))=.ok (.string (gh (ik left))) (wr.alloc (Obj.cells (dj (ik left)) 206)):=lH (Own.new _ _ _) 102 9 5 0 32 32 (ik left) Tryz.underlying102 Tryz.underlying5 Tryz.underlying9 (BZ left) (λj hj=>by rw[Nat.zero_add];exact Jg hj);have hBs:=hB.size;go_wp2_with(at_builtin;refine wpList_append_own _ rfl _ _ 63 rfl w.heap.size 9 i0 (.string (gh [])) 1 16 Tryz.underlying63 hi hz0 hz1 hz2 rfl (by decide) _ _ _ rfl ((hown.alloc _).alloc _) ⟨wr.heap.size+1,0,none⟩ 1 1 [.string (gh (ik left))] rfl rfl ?c1 ?c2 ?c3 ?c4 ?c5 ?_);case c1=>have:=cell_one_new (wr.alloc (Obj.cells (dj (ik left)) 206)) (.string (gh (ik left))) 9;rw[World.size_alloc]at this;exact this
   case c2=>simp[Value.oneCell']
   case c3=>unfold maxLen;omega
   case c4=>omega
   case c5=>simp;omega
   intro v' w2 hown' hgrow _;rw[<-PU]at hown';have hB2:Below w.heap.size w w2:=((hB.alloc hB.size _).alloc (by simp;omega) _).grown hgrow (by simp;omega) (λk hk=>(hown.lt k hk).1);clear hown hB hcp hcs hgrow;have hi1:(n:Int)<=(left.length:Int):=by omega
   go_wp2_with fail;go_roundw;case rel=>
    refine⟨done++[ik left],left.drop 32,by rw[Hch.out];simp,by simp;omega,?_,by simpa using hown',hB2⟩;rw[<-Hn.out];congr 2;rcases Nat.le_total left.length 32with h|h;.rw[Nat.min_eq_left h,WO (YC _),WO h]
    .rw[Nat.min_eq_right h]
   case measure=>simp[xu];omega
end Go.Proofs.YtabnemidjklolaaGreatDoor
