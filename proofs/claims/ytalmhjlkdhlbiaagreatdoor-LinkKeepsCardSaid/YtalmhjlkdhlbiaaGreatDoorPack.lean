/- frame: Pack and Size. -/
import Derived.Test.YtalmhjlkdhlbiaaGreatDoorFrame
import Derived.OwnWalk
import Derived.Maps.AppendAt
open Nat renaming le_refl → YA
open List renaming eq_nil_of_length_eq_zero → YR,replicate → Yg,drop_eq_nil_of_le → WK,length_pos_iff → WX
set_option maxRecDepth 100000
namespace Go.Proofs.YtalmhjlkdhlbiaaGreatDoor
open Go.RowKit Go.Wd
/-- A sector's bytes,filled up. -/
def fZ (l:List UInt8):List UInt8:=l.take 32 ++ (Yg 32 0).drop l.length
/-- Sectors of bytes. -/
def mI:Nat->List UInt8->List (List UInt8)
 | 0,_=>[]
 | n+1,l=>if l=[] then [] else fZ l :: mI n (l.drop 32)
def chunks (l:List UInt8):List (List UInt8):=mI l.length l
theorem At (n:Nat):∀ (m:Nat) (l:List UInt8),l.length<=n->n<=m->mI m l=mI n l:=by
 induction n with
 | zero=>
  intro m l h _
  obtain rfl:l=[]:=YR (by omega)
  cases m<;>simp [mI]
 | succ n ih=>
  intro m l h hm
  cases m with
  | zero=>omega
  | succ m=>
   simp only [mI]
   split
   .rfl
   .rw [ih m _ (by simp;omega) (by omega)]
theorem jQ:chunks []=[]:=rfl
theorem fV {l:List UInt8} (h:l≠[]):chunks l=fZ l :: chunks (l.drop 32):=by
 have hl:0<l.length:=WX.2 h
 unfold chunks
 obtain ⟨n,hn⟩:∃ n,l.length=n+1:=⟨l.length-1,by omega⟩
 rw [hn]
 simp only [mI,if_neg h]
 rw [At (l.drop 32).length n _ (YA _) (by simp;omega)]
theorem FY (l:List UInt8):∀ n,l.length<=32*n->(chunks l).length<=n:=by
 suffices ∀ k (l:List UInt8),l.length<=k->∀ n,l.length<=32*n->(chunks l).length<=n from this _ l (YA _)
 intro k
 induction k with
 | zero=>intro l hk n _;obtain rfl:l=[]:=YR (by omega);simp [jQ]
 | succ k ih=>
  intro l hk n hn
  by_cases h:l=[]
  .subst h;simp [jQ]
  .have hl:0<l.length:=WX.2 h
   rw [fV h]
   have:=ih (l.drop 32) (by simp;omega) (n-1) (by simp;omega)
   simp;omega
theorem zj (l:List UInt8):(fZ l).length=32:=by simp [fZ];omega
def UC:Array Value:=#[Value.int IntKind.u8 0,Value.int IntKind.u8 0,Value.int IntKind.u8 0,Value.int IntKind.u8 0,Value.int IntKind.u8 0,Value.int IntKind.u8 0,Value.int IntKind.u8 0,Value.int IntKind.u8 0,Value.int IntKind.u8 0,Value.int IntKind.u8 0,Value.int IntKind.u8 0,Value.int IntKind.u8 0,Value.int IntKind.u8 0,Value.int IntKind.u8 0,Value.int IntKind.u8 0,Value.int IntKind.u8 0,Value.int IntKind.u8 0,Value.int IntKind.u8 0,Value.int IntKind.u8 0,Value.int IntKind.u8 0,Value.int IntKind.u8 0,Value.int IntKind.u8 0,Value.int IntKind.u8 0,Value.int IntKind.u8 0,Value.int IntKind.u8 0,Value.int IntKind.u8 0,Value.int IntKind.u8 0,Value.int IntKind.u8 0,Value.int IntKind.u8 0,Value.int IntKind.u8 0,Value.int IntKind.u8 0,Value.int IntKind.u8 0]
theorem ZL:UC=cT (Yg 32 0):=rfl
/-- Strings as cells. -/
def strs (ls:List (List UInt8)):List Value:=ls.map λl=>Value.string (fv l)
theorem Lp (ls:List (List UInt8)) (l:List UInt8):strs (ls ++ [l])=strs ls ++ [.string (fv l)]:=by simp [strs]
theorem acg (ls:List (List UInt8)):(strs ls).length=ls.length:=by simp [strs]
theorem PD (l:List UInt8) (w:World) (hs:l.length<=10000000):
 Calls Tryz.prog 129 #[.string (fv l)] w λe w'=>e = .returned (.int .i64 ((l.length+37)/32:Nat))/\w=w':=by
 go_enter Tryz.func129,Tryz.ntmps129
 go_wp2_with fail
 go_ret
 exact ⟨congrArg (λn=>Ending.returned (.int .i64 n)) (by omega),rfl⟩
theorem Tj:(Tryz.prog.info? 9).map (λi=>(i.zero,i.size,i.bytes))=some (some (.string (fv [])),1,16):=by kernel_rfl
theorem ae1:(Tryz.prog.info? 5).map (λi=>(i.zero,i.size,i.bytes))=some (some (.int .u8 0),1,1):=by kernel_rfl
theorem ZX (l:List UInt8) (w:World) (hs:8192<l.length) (hs2:l.length<=100000000000):
 Calls Tryz.prog 123 #[.string (fv l)] w λe w'=>e = .returned (.tuple #[.slice none 0 0,.int .i64 3])/\w=w':=by
 go_enter Tryz.func123,Tryz.ntmps123
 go_wp2_with fail
 go_ret2
 exact ⟨rfl,rfl⟩
theorem OU (l:List UInt8) (w:World) (hs:l.length<=8192):
 Calls Tryz.prog 123 #[.string (fv l)] w λe w'=>∃ v,e = .returned (.tuple #[v,.int .i64 0])/\
  w'.ownsRow w.heap.size 9 1 v (chunks (eE l)).length (strs (chunks (eE l)))/\Below w.heap.size w w':=by
 obtain ⟨i0,hi,hz0,hz1,hz2⟩:=info_parts Tj
 have hwl:(eE l).length=l.length+6:=by simp [eE,qc,mN];omega
 go_enter Tryz.func123,Tryz.ntmps123
 go_wp2_with fail
 refine (zU l _ (by omega)).mono ?_
 rintro e w1 ⟨rfl,hb1⟩
 generalize hall:eE l=all at *
 have Hall:=Lib.hid hall
 clear hall
 go_wp2_with fail
 have hcl:(chunks all).length<=300:=FY all 300 (by omega)
 go_loopw [4,5,6,7,13,14,15,16,17,18,19,20,21,22,23,24,25] (λv s _ _ _ _ _ _ _ _ _ _ _ _ _ _ _ wr=>∃ (done:List (List UInt8)) (left:List UInt8),chunks all=done ++ chunks left/\left.length<=all.length/\s = .string (fv left)/\
  wr.ownsRow w.heap.size 9 1 v done.length (strs done)/\Below w.heap.size w wr)
  (λ_ s _ _ _ _ _ _ _ _ _ _ _ _ _ _ _ _=>match s with | .string b=>b.size|_=>0)
 case atStart=>exact ⟨[],all,rfl,YA _,rfl,World.ownsRow_nil _ _ _ _,hb1⟩
 case round=>
  obtain ⟨done,left,hch,hll,rfl,hown,hB⟩:=hrel
  by_cases hl0:left=[]
  .subst hl0
   rw [jQ,List.append_nil]at hch
   have Hch:=Lib.hid hch
   clear hch
   go_wp2_with fail
   go_ret2
   exact ⟨_,rfl,by rw [Hall.out,Hch.out];exact hown,hB⟩
  .have hl2:(!left.isEmpty)=true:=by simpa using hl0
   have hpos:0<left.length:=WX.2 hl0
   rw [fV hl0]at hch
   have hdl:done.length<300:=by rw [hch]at hcl;simp at hcl;omega
   have Hch:=Lib.hid hch
   clear hch
   obtain ⟨n,Hn⟩:∃ n,Hid (min left.length 32=n):=⟨_,rfl⟩
   have hn1:n<=left.length:=by have:=Hn.out;omega
   have hn0:0<n:=by have:=Hn.out;omega
   have hcp:Sem.run Tryz.prog (Builtin.copy_ #[45,9] 3 #[Value.slice (some {block:=wr.heap.size,off:=0 }) 32 32,Value.string (fv left)])
    (wr.alloc (Obj.cells #[Value.int IntKind.u8 0,Value.int IntKind.u8 0,Value.int IntKind.u8 0,Value.int IntKind.u8 0,Value.int IntKind.u8 0,Value.int IntKind.u8 0,Value.int IntKind.u8 0,Value.int IntKind.u8 0,Value.int IntKind.u8 0,Value.int IntKind.u8 0,Value.int IntKind.u8 0,Value.int IntKind.u8 0,Value.int IntKind.u8 0,Value.int IntKind.u8 0,Value.int IntKind.u8 0,Value.int IntKind.u8 0,Value.int IntKind.u8 0,Value.int IntKind.u8 0,Value.int IntKind.u8 0,Value.int IntKind.u8 0,Value.int IntKind.u8 0,Value.int IntKind.u8 0,Value.int IntKind.u8 0,Value.int IntKind.u8 0,Value.int IntKind.u8 0,Value.int IntKind.u8 0,Value.int IntKind.u8 0,Value.int IntKind.u8 0,Value.int IntKind.u8 0,Value.int IntKind.u8 0,Value.int IntKind.u8 0,Value.int IntKind.u8 0] 221)) = .ok (goInt (n:Nat)) (wr.alloc (Obj.cells (cT (fZ left)) 221)):=by
    rw [<- Hn.out]
    exact BJ wr 45 9 3 5 32 32 left (Yg 32 0) 221 Tryz.underlying45 (by kernel_rfl) rfl
   have hcs:Sem.run Tryz.prog (convert 45 9 (Value.slice (some {block:=wr.heap.size,off:=0 }) 32 32)) (wr.alloc (Obj.cells (cT (fZ left)) 221)) =
    .ok (.string (fv (fZ left))) (wr.alloc (Obj.cells (cT (fZ left)) 221)):=
    kC (Own.new _ _ _) 45 9 5 0 32 32 (fZ left) Tryz.underlying45 Tryz.underlying5 Tryz.underlying9 (zj left) (λj hj=>by rw [Nat.zero_add];exact FO hj)
   have hBs:=hB.size
   go_wp2_with (at_builtin;refine wpList_append_own _ rfl _ _ 114 rfl w.heap.size 9 i0 (.string (fv [])) 1 16 Tryz.underlying114 hi hz0 hz1 hz2 rfl (by decide) _ _ _ rfl ((hown.alloc _).alloc _) ⟨wr.heap.size+1,0,none⟩ 1 1 [.string (fv (fZ left))] rfl rfl ?c1 ?c2 ?c3 ?c4 ?c5 ?_)
   case c1=>
    have:=cell_one_new (wr.alloc (Obj.cells (cT (fZ left)) 221)) (.string (fv (fZ left))) 9
    rw [World.size_alloc]at this
    exact this
   case c2=>simp [Value.oneCell']
   case c3=>unfold maxLen;omega
   case c4=>omega
   case c5=>simp;omega
   intro v' w2 hown' hgrow _
   rw [<- Lp]at hown'
   have hB2:Below w.heap.size w w2:=((hB.alloc hB.size _).alloc (by simp;omega) _).grown hgrow (by simp;omega) (λk hk=>(hown.lt k hk).1)
   clear hown hB hcp hcs hgrow
   have hi1:(n:Int)<=(left.length:Int):=by omega
   go_wp2_with fail
   go_roundw
   case rel=>
    refine ⟨done ++ [fZ left],left.drop 32,by rw [Hch.out];simp,by simp;omega,?_,by simpa using hown',hB2⟩
    rw [<- Hn.out]
    congr 2
    rcases Nat.le_total left.length 32 with h|h
    .rw [Nat.min_eq_left h,WK (YA _),WK h]
    .rw [Nat.min_eq_right h]
   case measure=>simp [vD];omega
end Go.Proofs.YtalmhjlkdhlbiaaGreatDoor
