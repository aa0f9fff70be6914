/- frame.Pack,frame.Unpack,taken by what they are known to do. -/
import Derived.Test.YtnndgkcpacpleaaGreatDoorLB
import Derived.Test.YtnndgkcpacpleaaGreatDoorLg
import Derived.Test.YtnndgkcpacpleaaGreatDoorFramePk
open List renaming getElem?_map → Yg
set_option linter.unusedVariables false
namespace Go.Proofs.YtnndgkcpacpleaaGreatDoor
open Go.RowKit Go.Wd Go.Ev
theorem Dm {m:M} (x:List UInt8):VR m (tv x) (.string (fQ x)):=by
 unfold tv
 simp only [VR]
 rw [fN]
 exact ⟨rfl,jA x⟩
theorem Vj:cD fY df where
 len t _:=nD t
 num t h:=by rw [mI];omega
 pos t _ h:=by
  have:=mI t
  rw [h]at this
  simp only [List.length_nil]at this
  omega
 back t h:=by rw [Bh];exact N7 t h
 size t _:=mI t
 short t k h hk:=by rw [Bh];exact Kw t k h hk
theorem J9:vZ Tryz.prog 102 (gI fY):=λargs H k h=>by
 match args,h with
 | [.str l n],h=>
  have h':(if l<=8192/\n<256 ^ l then cB H (.cells ((fY (aB l n)).map tv)) λb H'=>k (.cH [.slice b 0 (fY (aB l n)).length 0 1,.int 3 0]) H' else no 0)=1:=h
  by_cases hc:l<=8192/\n<256 ^ l
  .rw [if_pos hc]at h'
   obtain ⟨H',h3,hN⟩:=dH h'
   refine ⟨_,H',λbase w0 rho w cargs hp hv=>?_,h3⟩
   obtain ⟨rfl,hn⟩:=uW hv
   refine ⟨jW Tryz.func102 rfl rfl _ _,?_⟩
   refine CallsIn.mono (callsIn_wide.2 (S8 (aB l n) w (by rw [aK];exact hc.1))) ?_
   rintro e w' ⟨v,rfl,hown,hb⟩
   rcases hown with ⟨hl1,⟨_,h0⟩|⟨g,cap,cur,rfl,hbg,hg,hnc,hcm,hsz,htk⟩⟩
   .have:=mI (aB l n)
    omega
   have hcell:∀ (i:Nat) (x:List UInt8),(fY (aB l n))[i]? = some x->cur[i]? = some (.string (fQ x)):=λi x hx=>by
    have h1:(cur.toList.take ((fY (aB l n)).length*1))[i]? = some (.string (fQ x)):=by
     rw [htk]
     simp only [strs,Yg,hx,Option.map_some]
    rw [List.getElem?_take]at h1
    split at h1
    .simpa using h1
    .cases h1
   have hR:ju (mu rho H w) ((fY (aB l n)).map tv) cur (0,0):=by
    refine ⟨λi u hi=>?_,λi _=>by simp⟩
    rw [Yg]at hi
    obtain ⟨x,hx,rfl⟩:=Option.map_eq_some_iff.1 hi
    exact ⟨rfl,_,hcell i x hx,Dm x⟩
   obtain ⟨p1,p2⟩:=hp.late hb hN.n hN.bz hN.get hN.vU trivial hbg hg ⟨cur,_,(0,0),rfl,hR,by simp⟩
   refine ⟨_,rfl,_,?_,p1,p2⟩
   simp only [VR]
   refine ⟨_,rfl,?_⟩
   simp only [cm]
   refine ⟨_,_,rfl,?_,_,_,rfl,?_,rfl⟩
   .simp only [VR]
    refine ⟨g,cap,0,none,rfl,⟨by rw [hN.n];omega,λ_=>by simp⟩,hnc,⟨λq hq=>absurd hq (by omega),λ_=>Or.inr ⟨⟨cur,_,_,hg,by omega⟩,by unfold maxLen at hcm;omega⟩⟩,Or.inl ⟨rfl,rfl⟩⟩
   .simp only [VR]
    exact ⟨by show Value.int .i64 0=Value.int .i64 (toI .i64 (0:Nat));rw [toI_64' (by omega)];rfl,by show 0<eg _;exact Nat.pow_pos (by decide),by omega⟩
  .rw [if_neg hc]at h'
   exact (av h').elim
theorem Cw:vZ Tryz.prog 119 (ev df):=λargs H k h=>by
 classical
 match args,h with
 | [.slice b 0 n cp sz],h=>
  have h':(if h:∃ ls:List (List UInt8),H.get b = .cells (ls.map tv)/\ls.length=n/\n<=1000/\(∀ x ∈ ls,x.length<=1000) then k (OE (df h.choose)) H else no 0)=1:=by
   refine Eq.trans ?_ h
   show _=ev df [.slice b 0 n cp sz] H k
   unfold ev
   rfl
  by_cases hc:∃ ls:List (List UInt8),H.get b = .cells (ls.map tv)/\ls.length=n/\n<=1000/\(∀ x ∈ ls,x.length<=1000)
  .rw [dif_pos hc]at h'
   obtain ⟨hb,hn,hn1,hx1⟩:=hc.choose_spec
   generalize hc.choose=ls at h' hb hn hx1
   refine ⟨_,H,iu.pN Tryz.func119 rfl rfl λbase w0 rho w cargs hp hv=>?_,h'⟩
   simp only [cm]at hv
   obtain ⟨c1,r1,e1,v1,rfl⟩:=hv
   simp only [VR]at v1
   obtain ⟨c,cap,o',sp,rfl,hm,hle,hcp,ho⟩:=v1
   have hca:cargs = #[.slice (some ⟨c,o',sp⟩) n cap]:=by apply Array.ext';exact e1
   subst hca
   have hrow:rowOf (H.get b)=some (ls.map tv):=by rw [hb];rfl
   have hr:=hp.lX hm hrow
   have hrd:IX w (.slice (some ⟨c,o',sp⟩) n cap) ls:=by
    refine ⟨_,cap,by rw [hn],by omega,?_⟩
    by_cases h0:ls=[]
    .exact Or.inl h0
    .right
     have hl0:0<ls.length:=List.length_pos_iff.2 h0
     obtain ⟨rfl,rfl⟩:o'=0/\sp=none:=by
      rcases ho with h|h
      .exact h
      .omega
     refine ⟨c,0,rfl,(hp.jP _ _ hr).2.2.1,λj x hx=>?_⟩
     obtain ⟨cv,g1,g2,_⟩:=hp.cell (i:=j) (v:=tv x) hr hrow (by rw [Yg,hx];rfl)
     rw [Nat.zero_add,g1]
     unfold tv at g2
     simp only [VR]at g2
     rw [g2.1,fN]
     rfl
   have hfl:∀ (l:List (List UInt8)),(∀ x ∈ l,x.length<=1000)->l.flatten.length<=1000*l.length:=by
    intro l
    induction l with
    | nil=>intro _;simp
    | cons x l ih=>
     intro h
     have h1:=ih λy hy=>h y (List.mem_cons_of_mem _ hy)
     have h2:=h x (List.mem_cons_self ..)
     simp only [List.flatten_cons,List.length_append,List.length_cons]
     omega
   have hf:=hfl ls hx1
   have hcall:=Lh ls _ w hrd (by omega) (by omega)
   refine ⟨unp (df ls),?_,hcall⟩
   have hi:∀ (m:M) (e:Nat),e<100->VR m (.int 3 e) (.int .i64 (e:Int)):=λm e he=>by
    simp only [VR]
    exact ⟨by show Value.int .i64 (e:Int)=Value.int .i64 (toI .i64 e);rw [toI_64' (by omega)],Nat.lt_of_lt_of_le (show e<2 ^ 7 by omega) (Nat.pow_le_pow_right (by decide) (by decide)),by omega⟩
   cases df ls with
   | some t=>
    simp only [OE,unp,VR]
    refine ⟨_,rfl,?_⟩
    simp only [cm]
    exact ⟨_,_,rfl,Dm t,_,_,rfl,hi _ 0 (by omega),rfl⟩
   | none=>
    simp only [OE,unp,VR]
    refine ⟨_,rfl,?_⟩
    simp only [cm]
    exact ⟨_,_,rfl,Dm [],_,_,rfl,hi _ 4 (by omega),rfl⟩
  .rw [dif_neg hc]at h'
   exact (av h').elim
end Go.Proofs.YtnndgkcpacpleaaGreatDoor
