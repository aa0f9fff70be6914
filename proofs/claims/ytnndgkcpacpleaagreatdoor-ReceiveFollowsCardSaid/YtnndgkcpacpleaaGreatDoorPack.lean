/- frame: Pack and Size. -/
import Derived.Test.YtnndgkcpacpleaaGreatDoorFrame
import Derived.OwnWalk
import Derived.Maps.AppendAt
open Nat renaming le_refl → YB
open List renaming eq_nil_of_length_eq_zero → YQ,replicate → YZ,drop_eq_nil_of_le → WQ,length_pos_iff → WW
set_option maxRecDepth 100000
namespace Go.Proofs.YtnndgkcpacpleaaGreatDoor
open Go.RowKit Go.Wd
/-- A sector's bytes,filled up. -/
def gJ (l:List UInt8):List UInt8:=l.take 32 ++ (YZ 32 0).drop l.length
/-- Sectors of bytes. -/
def mZ:Nat->List UInt8->List (List UInt8)
 | 0,_=>[]
 | n+1,l=>if l=[] then [] else gJ l :: mZ n (l.drop 32)
def chunks (l:List UInt8):List (List UInt8):=mZ l.length l
theorem BM (n:Nat):∀ (m:Nat) (l:List UInt8),l.length<=n->n<=m->mZ m l=mZ n l:=by
 induction n with
 | zero=>
  intro m l h _
  obtain rfl:l=[]:=YQ (by omega)
  cases m<;>simp [mZ]
 | succ n ih=>
  intro m l h hm
  cases m with
  | zero=>omega
  | succ m=>
   simp only [mZ]
   split
   .rfl
   .rw [ih m _ (by simp;omega) (by omega)]
theorem kB:chunks []=[]:=rfl
theorem gG {l:List UInt8} (h:l≠[]):chunks l=gJ l :: chunks (l.drop 32):=by
 have hl:0<l.length:=WW.2 h
 unfold chunks
 obtain ⟨n,hn⟩:∃ n,l.length=n+1:=⟨l.length-1,by omega⟩
 rw [hn]
 simp only [mZ,if_neg h]
 rw [BM (l.drop 32).length n _ (YB _) (by simp;omega)]
theorem Jp (l:List UInt8):∀ n,l.length<=32*n->(chunks l).length<=n:=by
 suffices ∀ k (l:List UInt8),l.length<=k->∀ n,l.length<=32*n->(chunks l).length<=n from this _ l (YB _)
 intro k
 induction k with
 | zero=>intro l hk n _;obtain rfl:l=[]:=YQ (by omega);simp [kB]
 | succ k ih=>
  intro l hk n hn
  by_cases h:l=[]
  .subst h;simp [kB]
  .have hl:0<l.length:=WW.2 h
   rw [gG h]
   have:=ih (l.drop 32) (by simp;omega) (n-1) (by simp;omega)
   simp;omega
theorem AU (l:List UInt8):(gJ l).length=32:=by simp [gJ];omega
def Xx:Array Value:=#[Value.int IntKind.u8 0,Value.int IntKind.u8 0,Value.int IntKind.u8 0,Value.int IntKind.u8 0,Value.int IntKind.u8 0,Value.int IntKind.u8 0,Value.int IntKind.u8 0,Value.int IntKind.u8 0,Value.int IntKind.u8 0,Value.int IntKind.u8 0,Value.int IntKind.u8 0,Value.int IntKind.u8 0,Value.int IntKind.u8 0,Value.int IntKind.u8 0,Value.int IntKind.u8 0,Value.int IntKind.u8 0,Value.int IntKind.u8 0,Value.int IntKind.u8 0,Value.int IntKind.u8 0,Value.int IntKind.u8 0,Value.int IntKind.u8 0,Value.int IntKind.u8 0,Value.int IntKind.u8 0,Value.int IntKind.u8 0,Value.int IntKind.u8 0,Value.int IntKind.u8 0,Value.int IntKind.u8 0,Value.int IntKind.u8 0,Value.int IntKind.u8 0,Value.int IntKind.u8 0,Value.int IntKind.u8 0,Value.int IntKind.u8 0]
theorem abI:Xx=cV (YZ 32 0):=rfl
/-- Strings as cells. -/
def strs (ls:List (List UInt8)):List Value:=ls.map λl=>Value.string (fQ l)
theorem Oy (ls:List (List UInt8)) (l:List UInt8):strs (ls ++ [l])=strs ls ++ [.string (fQ l)]:=by simp [strs]
theorem ae0 (ls:List (List UInt8)):(strs ls).length=ls.length:=by simp [strs]
theorem TG (l:List UInt8) (w:World) (hs:l.length<=10000000):
 Calls Tryz.prog 172 #[.string (fQ l)] w λe w'=>e = .returned (.int .i64 ((l.length+37)/32:Nat))/\w=w':=by
 go_enter Tryz.func172,Tryz.ntmps172
 go_wp2_with fail
 go_ret
 exact ⟨congrArg (λn=>Ending.returned (.int .i64 n)) (by omega),rfl⟩
theorem Vn:(Tryz.prog.info? 9).map (λi=>(i.zero,i.size,i.bytes))=some (some (.string (fQ [])),1,16):=by kernel_rfl
theorem afX:(Tryz.prog.info? 5).map (λi=>(i.zero,i.size,i.bytes))=some (some (.int .u8 0),1,1):=by kernel_rfl
theorem abT (l:List UInt8) (w:World) (hs:8192<l.length) (hs2:l.length<=100000000000):
 Calls Tryz.prog 102 #[.string (fQ l)] w λe w'=>e = .returned (.tuple #[.slice none 0 0,.int .i64 3])/\w=w':=by
 go_enter Tryz.func102,Tryz.ntmps102
 go_wp2_with fail
 go_ret2
 exact ⟨rfl,rfl⟩
theorem SZ (l:List UInt8) (w:World) (hs:l.length<=8192):
 Calls Tryz.prog 102 #[.string (fQ l)] w λe w'=>∃ v,e = .returned (.tuple #[v,.int .i64 0])/\
  w'.ownsRow w.heap.size 9 1 v (chunks (eQ l)).length (strs (chunks (eQ l)))/\Below w.heap.size w w':=by
 obtain ⟨i0,hi,hz0,hz1,hz2⟩:=info_parts Vn
 have hwl:(eQ l).length=l.length+6:=by simp [eQ,qF,nC];omega
 go_enter Tryz.func102,Tryz.ntmps102
 go_wp2_with fail
 refine (Bl l _ (by omega)).mono ?_
 rintro e w1 ⟨rfl,hb1⟩
 generalize hall:eQ l=all at *
 have Hall:=Lib.hid hall
 clear hall
 go_wp2_with fail
 have hcl:(chunks all).length<=300:=Jp all 300 (by omega)
 go_loopw [4,5,6,7,13,14,15,16,17,18,19,20,21,22,23,24,25] (λv s _ _ _ _ _ _ _ _ _ _ _ _ _ _ _ wr=>∃ (done:List (List UInt8)) (left:List UInt8),chunks all=done ++ chunks left/\left.length<=all.length/\s = .string (fQ left)/\
  wr.ownsRow w.heap.size 9 1 v done.length (strs done)/\Below w.heap.size w wr)
  (λ_ s _ _ _ _ _ _ _ _ _ _ _ _ _ _ _ _=>match s with | .string b=>b.size|_=>0)
 case atStart=>exact ⟨[],all,rfl,YB _,rfl,World.ownsRow_nil _ _ _ _,hb1⟩
 case round=>
  obtain ⟨done,left,hch,hll,rfl,hown,hB⟩:=hrel
  by_cases hl0:left=[]
  .subst hl0
   rw [kB,List.append_nil]at hch
   have Hch:=Lib.hid hch
   clear hch
   go_wp2_with fail
   go_ret2
   exact ⟨_,rfl,by rw [Hall.out,Hch.out];exact hown,hB⟩
  .have hl2:(!left.isEmpty)=true:=by simpa using hl0
   have hpos:0<left.length:=WW.2 hl0
   rw [gG hl0]at hch
   have hdl:done.length<300:=by rw [hch]at hcl;simp at hcl;omega
   have Hch:=Lib.hid hch
   clear hch
   obtain ⟨n,Hn⟩:∃ n,Hid (min left.length 32=n):=⟨_,rfl⟩
   have hn1:n<=left.length:=by have:=Hn.out;omega
   have hn0:0<n:=by have:=Hn.out;omega
   have hcp:Sem.run Tryz.prog (Builtin.copy_ #[64,9] 3 #[Value.slice (some {block:=wr.heap.size,off:=0 }) 32 32,Value.string (fQ left)])
    (wr.alloc (Obj.cells #[Value.int IntKind.u8 0,Value.int IntKind.u8 0,Value.int IntKind.u8 0,Value.int IntKind.u8 0,Value.int IntKind.u8 0,Value.int IntKind.u8 0,Value.int IntKind.u8 0,Value.int IntKind.u8 0,Value.int IntKind.u8 0,Value.int IntKind.u8 0,Value.int IntKind.u8 0,Value.int IntKind.u8 0,Value.int IntKind.u8 0,Value.int IntKind.u8 0,Value.int IntKind.u8 0,Value.int IntKind.u8 0,Value.int IntKind.u8 0,Value.int IntKind.u8 0,Value.int IntKind.u8 0,Value.int IntKind.u8 0,Value.int IntKind.u8 0,Value.int IntKind.u8 0,Value.int IntKind.u8 0,Value.int IntKind.u8 0,Value.int IntKind.u8 0,Value.int IntKind.u8 0,Value.int IntKind.u8 0,Value.int IntKind.u8 0,Value.int IntKind.u8 0,Value.int IntKind.u8 0,Value.int IntKind.u8 0,Value.int IntKind.u8 0] 221)) = .ok (goInt (n:Nat)) (wr.alloc (Obj.cells (cV (gJ left)) 221)):=by
    rw [<- Hn.out]
    exact CV wr 64 9 3 5 32 32 left (YZ 32 0) 221 Tryz.underlying64 (by kernel_rfl) rfl
   have hcs:Sem.run Tryz.prog (convert 64 9 (Value.slice (some {block:=wr.heap.size,off:=0 }) 32 32)) (wr.alloc (Obj.cells (cV (gJ left)) 221)) =
    .ok (.string (fQ (gJ left))) (wr.alloc (Obj.cells (cV (gJ left)) 221)):=
    kU (Own.new _ _ _) 64 9 5 0 32 32 (gJ left) Tryz.underlying64 Tryz.underlying5 Tryz.underlying9 (AU left) (λj hj=>by rw [Nat.zero_add];exact Je hj)
   have hBs:=hB.size
   go_wp2_with (at_builtin;refine wpList_append_own _ rfl _ _ 57 rfl w.heap.size 9 i0 (.string (fQ [])) 1 16 Tryz.underlying57 hi hz0 hz1 hz2 rfl (by decide) _ _ _ rfl ((hown.alloc _).alloc _) ⟨wr.heap.size+1,0,none⟩ 1 1 [.string (fQ (gJ left))] rfl rfl ?c1 ?c2 ?c3 ?c4 ?c5 ?_)
   case c1=>
    have:=cell_one_new (wr.alloc (Obj.cells (cV (gJ left)) 221)) (.string (fQ (gJ left))) 9
    rw [World.size_alloc]at this
    exact this
   case c2=>simp [Value.oneCell']
   case c3=>unfold maxLen;omega
   case c4=>omega
   case c5=>simp;omega
   intro v' w2 hown' hgrow _
   rw [<- Oy]at hown'
   have hB2:Below w.heap.size w w2:=((hB.alloc hB.size _).alloc (by simp;omega) _).grown hgrow (by simp;omega) (λk hk=>(hown.lt k hk).1)
   clear hown hB hcp hcs hgrow
   have hi1:(n:Int)<=(left.length:Int):=by omega
   go_wp2_with fail
   go_roundw
   case rel=>
    refine ⟨done ++ [gJ left],left.drop 32,by rw [Hch.out];simp,by simp;omega,?_,by simpa using hown',hB2⟩
    rw [<- Hn.out]
    congr 2
    rcases Nat.le_total left.length 32 with h|h
    .rw [Nat.min_eq_left h,WQ (YB _),WQ h]
    .rw [Nat.min_eq_right h]
   case measure=>simp [wk];omega
end Go.Proofs.YtnndgkcpacpleaaGreatDoor
