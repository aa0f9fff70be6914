/- frame: Unpack. -/
import Derived.Test.YtnndgkcpacpleaaGreatDoorPack
open List renaming getElem?_eq_getElem → YA,all_eq_true → WR
open Nat renaming not_lt_zero → Wm
set_option maxRecDepth 100000
namespace Go.Proofs.YtnndgkcpacpleaaGreatDoor
open Go.RowKit Go.Wd
/-- A slice of strings that can be read. -/
def IX (w:World) (v:Value) (ls:List (List UInt8)):Prop:=
 ∃ a c,v = .slice a ls.length c/\ls.length<=c/\(ls=[]\/∃ b o,a=some ⟨b,o,none⟩/\b<w.heap.size/\∀ (j:Nat) x,ls[j]? = some x->w.cell? ⟨b,o+j,none⟩=some (.string (fQ x)))
theorem Vq {w:World} {v:Value} {ls:List (List UInt8)} (h:IX w v ls) (hlen:ls.flatten.length<=100000000) (hN:ls.length<=100000000):
 Calls Tryz.prog 185 #[v] w λe w'=>e = .returned (.string (fQ ls.flatten))/\Below w.heap.size w w':=by
 obtain ⟨a,c,rfl,hc,rfl|⟨b,o,rfl,hb,hcells⟩⟩:=h
 .have h:=Tryz.strings_Join_none a c (fQ []) w
  have H:=Lib.hid h
  clear h
  go_enter Tryz.func185,Tryz.ntmps185
  go_wp2_with fail
  refine (H.out).mono ?_
  rintro e w1 ⟨rfl,rfl⟩
  go_wp2_with fail
  go_ret
  exact ⟨rfl,Below.refl _ _⟩
 .exact GA b o c ls w hcells hb hc hlen hN
theorem TY (r:List UInt8) (w:World) (h:r.length<=100000000):
 Calls Tryz.prog 186 #[.string (fQ r),.string (fQ [0])] w λe w'=>e = .returned (.string (fQ (Lib.trimB r 0)))/\∃ m,w'=w.drewN m:=
 (Tryz.strings_Trim_one (fQ r) 0 (by decide) w (by rw [wk];omega)).mono λ_ _ h=>⟨h.1,h.2.elim (λh=>⟨0,h⟩) (λh=>⟨1,h⟩)⟩
/-- The number of a frame's first two bytes. -/
def iO (l:List UInt8):Nat:=(l.getD 0 0).toNat*256+(l.getD 1 0).toNat
/-- Bytes of so many sectors,read as a text. -/
def lI (wW:Nat) (all:List UInt8):Option (List UInt8):=
 if all=[] then none
 else if 8192<iO all\/all.length<6+iO all then none
 else if (iO all+37)/32≠wW then none
 else if Lib.trimB (all.drop (6+iO all)) 0≠[] then none
 else if eQ ((all.drop 6).take (iO all))≠all.take (6+iO all) then none
 else some ((all.drop 6).take (iO all))
/-- Sectors read as a text. -/
def df (ls:List (List UInt8)):Option (List UInt8):=if ls.all (λs=>s.length == 32)=true then lI ls.length ls.flatten else none
theorem or2 (x y:UInt8):bits .or .i64 (wrap64 (wrap64 (x.toNat:Int)*256)) (wrap64 (y.toNat:Int))=((x.toNat*256+y.toNat:Nat):Int):=by
 have hx:=x.toNat_lt
 have hy:=y.toNat_lt
 have e1:wrap64 (wrap64 (x.toNat:Int)*256)=((x.toNat*256:Nat):Int):=by unfold wrap64;omega
 have e2:wrap64 (y.toNat:Int)=((y.toNat:Nat):Int):=by unfold wrap64;omega
 have h:=nat_join 8 (x.toNat*256) y.toNat (by omega) (by omega)
 have hb:∀ n:Nat,n<100000->(BitVec.ofInt 64 (n:Int)).toNat=n:=by
  intro n hn
  rw [BitVec.toNat_ofInt]
  omega
 rw [e1,e2]
 show IntKind.i64.wrap ((BitVec.ofInt 64 ((x.toNat*256:Nat):Int) ||| BitVec.ofInt 64 ((y.toNat:Nat):Int)).toNat:Int)=_
 rw [BitVec.toNat_or,hb _ (by omega),hb _ (by omega),h]
 simp [IntKind.wrap,IntKind.bits,IntKind.signed]
 omega
theorem JQ (ls:List (List UInt8)) (h:∀ x ∈ ls,x.length=32):ls.flatten.length=32*ls.length:=by
 induction ls with
 | nil=>rfl
 | cons x r ih=>
  have h1:=h x (by simp)
  have h2:=ih (λy hy=>h y (by simp [hy]))
  simp only [List.flatten_cons,List.length_append,List.length_cons]
  omega
/-- The two answers. -/
def unp:Option (List UInt8)->Value
 | some t=>.tuple #[.string (fQ t),.int .i64 0]
 | none=>.tuple #[.string (fQ []),.int .i64 4]
theorem _root_.Go.RowKit.Below.drewN {B:Nat} {a w:World} (h:Below B a w) (n:Nat):Below B a (w.drewN n):=h.trans ⟨rfl,rfl,rfl,Nat.le_refl _,λ_ _=>rfl⟩
theorem mW {w W W':World} (h:Below w.heap.size w W) (k:Below W.heap.size W W'):Below w.heap.size w W':=h.trans (k.mono h.size)
theorem Lh (ls:List (List UInt8)) (v:Value) (w:World) (hv:IX w v ls) (hN:ls.length<=100000) (hL:ls.flatten.length<=100000000):
 Calls Tryz.prog 119 #[v] w λe w'=>e = .returned (unp (df ls))/\Below w.heap.size w w':=by
 have hjoin:=λq=>Vq (w:=w.drewN q) (v:=v) (ls:=ls) hv hL (by omega)
 obtain ⟨a,c,rfl,hc,hr⟩:=hv
 have HJ:=Lib.hid hjoin
 have HR:=Lib.hid hr
 clear hjoin hr
 go_enter Tryz.func119,Tryz.ntmps119
 go_wp2_with fail
 go_loop [5,12,13,14,15,16,17,18,19] (λ_ i _ _ _ _ _ _ _=>∃ k:Nat,k<=ls.length/\i = .int .i64 k/\Hid (∀ (j:Nat) x,j<k->ls[j]? = some x->x.length=32))
  (λ_ i _ _ _ _ _ _ _=>ls.length-(intOf i).toNat)
 case atStart=>exact ⟨0,Nat.zero_le _,rfl,λj x h=>absurd h (Wm _)⟩
 case round=>
  obtain ⟨k,hk,rfl,hgood⟩:=hrel
  by_cases hlt:k<ls.length
  .obtain ⟨b,o,rfl,hb,hcells⟩:=(HR.out).resolve_left (by intro e;rw [e]at hlt;exact absurd hlt (Wm _))
   have hx:ls[k]? = some ls[k]:=YA hlt
   have hcell:=hcells k _ hx
   have Hx:=Lib.hid hx
   clear hx hcells
   generalize ls[k]=x at *
   by_cases h32:x.length=32
   .have e1:((x.length:Int) != 32)=false:=by simp;omega
    have H32:=Lib.hid h32
    clear h32
    go_wp2_with fail
    go_round
    case rel=>
     refine ⟨k+1,by omega,by go_num,?_⟩
     intro j y hj hy
     by_cases hjk:j=k
     .subst hjk
      have:=(Hx.out).symm.trans hy
      cases this
      exact H32.out
     .exact hgood.out j y (by omega) hy
    case measure=>simp [intOf];omega
   .have e1:((x.length:Int) != 32)=true:=by simp;omega
    have H32:=Lib.hid h32
    clear h32
    go_wp2_with fail
    go_ret2
    refine ⟨?_,Below.refl _ _⟩
    have hu:df ls=none:=by
     unfold df
     rw [if_neg]
     intro hall
     rw [WR]at hall
     have:=hall x (List.mem_of_getElem? Hx.out)
     exact H32.out (by simpa using this)
    rw [hu]
    rfl
  .obtain rfl:k=ls.length:=by omega
   have hall:ls.all (λs=>s.length == 32)=true:=by
    rw [WR]
    intro x hx
    obtain ⟨j,hj,rfl⟩:=List.getElem_of_mem hx
    simpa using hgood.out j _ hj (YA hj)
   have hfl:ls.flatten.length=32*ls.length:=JQ ls (λx hx=>by
    rw [WR]at hall
    simpa using hall x hx)
   have hu:df ls=lI ls.length ls.flatten:=by unfold df;rw [if_pos hall]
   have Hu:=Lib.hid hu
   clear hall hu hgood HR
   go_wp2_with fail
   refine (HJ.out 0).mono ?_
   rintro e w1 ⟨rfl,hb1⟩
   generalize hcnt:ls.length=wW at *
   generalize ls.flatten=all at *
   clear HJ
   by_cases h0:all=[]
   .subst h0
    go_wp2_with fail
    go_ret2
    exact ⟨by rw [Hu.out];rfl,hb1⟩
   .have h0':all.isEmpty=false:=by simpa using h0
    have hpos:0<all.length:=List.length_pos_iff.2 h0
    have h2:(1:Int)<(all.length:Int):=by omega
    clear hfl
    have h1:(0:Int)<(all.length:Int):=by omega
    obtain ⟨x,hx⟩:∃ x,all[0]? = some x:=⟨_,YA (by omega)⟩
    obtain ⟨y,hy⟩:∃ y,all[1]? = some y:=⟨_,YA (by omega)⟩
    have hi0:=λW=>qR (P:=Tryz.prog) W 9 .i64 0 all x Tryz.underlying9 (by omega) hx
    have hi1:=λW=>qR (P:=Tryz.prog) W 9 .i64 1 all y Tryz.underlying9 (by omega) hy
    have hN2:iO all=x.toNat*256+y.toNat:=by simp [iO,List.getD_eq_getElem?_getD,hx,hy]
    have hor:=or2 x y
    rw [<- hN2]at hor
    have HO:=Lib.hid hor
    clear hor hN2
    go_wp2_with fail
    go_quiet (fail)
    have hb2:=hb1.drewN nq
    generalize w1.drewN nq=w2 at hb2 ⊢
    clear hb1
    rw [HO.out]
    have hua:lI wW all=if 8192<iO all\/all.length<6+iO all then none
     else if (iO all+37)/32≠wW then none
     else if Lib.trimB (all.drop (6+iO all)) 0≠[] then none
     else if eQ ((all.drop 6).take (iO all))≠all.take (6+iO all) then none
     else some ((all.drop 6).take (iO all)):=by unfold lI;rw [if_neg h0]
    have HU:Hid (df ls=_):=(Hu.out).trans hua
    clear hua Hu hi0 hi1 hx hy HO
    generalize iO all=n at *
    by_cases hn1:8192<n
    .have hd1:decide ((8192:Int)<(n:Int))=true:=by simp;omega
     go_wp2_with fail
     go_ret2
     exact ⟨by rw [HU.out,if_pos (.inl hn1)];rfl,hb2⟩
    .have hd1:decide ((8192:Int)<(n:Int))=false:=by simp;omega
     by_cases hn2:all.length<6+n
     .have hd2:decide ((all.length:Int)<6+(n:Int))=true:=by simp;omega
      go_wp2_with fail
      go_ret2
      exact ⟨by rw [HU.out,if_pos (.inr hn2)];rfl,hb2⟩
     .have hd2:decide ((all.length:Int)<6+(n:Int))=false:=by simp;omega
      have HU2:Hid (df ls=_):=(HU.out).trans (if_neg (λh=>h.elim hn1 hn2))
      clear HU
      have i1:(0:Int)<=6+(n:Int):=by omega
      have i2:6+(n:Int)<=(all.length:Int):=by omega
      go_wp2_with fail
      go_quiet (fail)
      rw [show 6+n-6=n by omega]
      have hb3:=hb2.drewN nq
      generalize w2.drewN nq=w3 at hb3 ⊢
      clear hb2
      have ht:((all.drop 6).take n).length=n:=by simp;omega
      generalize (all.drop 6).take n=t at *
      have i3:t.length<=8192:=by omega
      have hsz:=TG t
      rw [ht]at hsz
      have HS:=Lib.hid hsz
      clear hsz ht
      generalize hr:all.drop (6+n)=r at *
      have i4:r.length<=100000000:=by rw [<- hr];simp;omega
      clear hr
      by_cases hc1:(n+37)/32=wW
      .have hd3:(((((n+37)/32:Nat):Int)) != (wW:Int))=false:=by simp;omega
       have HU3:Hid (df ls=_):=(HU2.out).trans (if_neg (λh=>h hc1))
       have htr:=λW=>TY r W i4
       clear HU2
       have HC:=Lib.hid hc1
       clear hc1
       generalize (n+37)/32=sz at *
       generalize Lib.trimB r 0=tr at *
       have HT:=Lib.hid htr
       clear htr
       by_cases htr0:tr=[]
       .subst htr0
        have HU4:Hid (df ls=_):=(HU3.out).trans (if_neg (λh=>h rfl))
        have hwh:=λW=>Bl t W (by omega)
        clear HU3
        generalize hwt:eQ t=wt at *
        have HW:=Lib.hid hwh
        clear hwh hwt
        by_cases hq:wt=all.take (6+n)
        .have hd6:(wt == all.take (6+n))=true:=by simpa using hq
         have HU5:Hid (df ls=some t):=(HU4.out).trans (if_neg (λh=>h hq))
         clear hq HU4
         go_wp2_with fail
         have hw6:IntKind.i64.wrap (6+(n:Int))=6+(n:Int):=IntWalk.i64_in _ (by omega)
         have hw7:(6+(n:Int)).toNat=6+n:=by omega
         go_region_held3 (λw'=>Below w.heap.size w w')
          (first|assumption|exact hb3.drew|exact mW (by assumption) hb5|exact Below.drewN (by assumption) _)
          (first
           | (go_at_call 172;refine ((HS.out) _ (by omega)).mono ?_;rintro e w' ⟨rfl,rfl⟩)
           | (go_at_call 186;refine (HT.out _).mono ?_;rintro e w' ⟨rfl,m,rfl⟩)
           | (go_at_call 173;refine (HW.out _).mono ?_;rintro e w' ⟨rfl,hb5⟩))
         have hb6:Below w.heap.size w w':=mW (Below.drewN (w:=w3) hb3 (1+m)) hb5
         go_wp2_with fail
         go_ret2
         exact ⟨by rw [HU5.out];rfl,hb6⟩
        .have hd6:(wt == all.take (6+n))=false:=by simpa using hq
         have HU5:Hid (df ls=none):=(HU4.out).trans (if_pos hq)
         clear hq HU4
         go_wp2_with fail
         have hw6:IntKind.i64.wrap (6+(n:Int))=6+(n:Int):=IntWalk.i64_in _ (by omega)
         have hw7:(6+(n:Int)).toNat=6+n:=by omega
         go_region_held3 (λw'=>Below w.heap.size w w')
          (first|assumption|exact hb3.drew|exact mW (by assumption) hb5|exact Below.drewN (by assumption) _)
          (first
           | (go_at_call 172;refine ((HS.out) _ (by omega)).mono ?_;rintro e w' ⟨rfl,rfl⟩)
           | (go_at_call 186;refine (HT.out _).mono ?_;rintro e w' ⟨rfl,m,rfl⟩)
           | (go_at_call 173;refine (HW.out _).mono ?_;rintro e w' ⟨rfl,hb5⟩))
         have hb6:Below w.heap.size w w':=mW (Below.drewN (w:=w3) hb3 (1+m)) hb5
         go_wp2_with fail
         go_ret2
         exact ⟨by rw [HU5.out];rfl,hb6⟩
       .have hd4:tr.isEmpty=false:=by simpa using htr0
        have hd5:(!tr.isEmpty)=true:=by simpa using htr0
        have HU4:Hid (df ls=none):=(HU3.out).trans (if_pos htr0)
        go_wp2_with fail
        go_quiet (first|(go_at_call 172;exact Calls.quiet_of_same (((HS.out) _ (by omega)).mono λ_ _ h=>⟨h.1,h.2.symm⟩))|(go_at_call 186;exact Calls.quiet_of (HT.out _)))
        go_wp2_with fail
        go_ret2
        exact ⟨by rw [HU4.out];rfl,hb3.drewN _⟩
      .have hd3:(((((n+37)/32:Nat):Int)) != (wW:Int))=true:=by simp;omega
       have HU3:Hid (df ls=none):=(HU2.out).trans (if_pos hc1)
       generalize (n+37)/32=sz at *
       go_wp2_with fail
       go_quiet ((go_at_call 172;exact Calls.quiet_of_same (((HS.out) _ (by omega)).mono λ_ _ h=>⟨h.1,h.2.symm⟩)))
       go_wp2_with fail
       go_ret2
       exact ⟨by rw [HU3.out];rfl,hb3.drewN _⟩
end Go.Proofs.YtnndgkcpacpleaaGreatDoor
