/- slices.Insert,at a list of functions,taken by its contract. -/
import Derived.Test.YtalmhjlkdhlbiaaGreatDoorEvE
import Derived.Test.YtalmhjlkdhlbiaaGreatDoorProg
import Derived.Shelf.Spec.SlicesInsertGrow
import Derived.OwnWalk
open List renaming getElem?_eq_getElem → YB,getElem?_eq_some_iff → YX,getElem?_append_left → Ym,getElem?_append_right → Yt,getElem?_drop → Yx,length_drop → WU,drop_zero → WV,mem_of_mem_drop → Qq
open Array renaming getElem?_eq_getElem → YQ
open Nat renaming zero_add → WJ,add_assoc → Wh,min_def → YK0
set_option linter.unusedVariables false
set_option linter.unusedSimpArgs false
namespace Go.Proofs.YtalmhjlkdhlbiaaGreatDoor
open Go.RowKit Go.Ev Go.Shelf Go.Lib
theorem Bc:(Tryz.prog.info? 81).map (λi=>(i.zero,i.size,i.bytes))=some (some Value.nilFunc,1,8):=by kernel_rfl
theorem Zi:∀ w,(Go.sizeOf 81).run Tryz.prog w = .ok 1 w:=λw=>by
 obtain ⟨i0,hi0,h0,h1,h2⟩:=info_parts Bc
 simp [Go.sizeOf,typeInfo,hi0,h1]
theorem Ha:Tryz.prog.follows .mixedOrders=true:=by kernel_rfl
set_option maxHeartbeats 4000000 in
set_option maxRecDepth 100000 in
theorem Kv (b off n c i vb voff m vc:Nat) (cs vs:List Value) (w:World) (hi:i<n) (hm:0<m) (hroom:n+m<=c) (hc63:c<=9223372036854775807) (hvb:vb≠b)
 (hcl:cs.length=n) (hvl:vs.length=m)
 (hcs:∀ j v,cs[j]? = some v->w.cell? ⟨b,off+j,none⟩=some v) (hsp:∀ j,j<n+m->(w.cell? ⟨b,off+j,none⟩).isSome=true) (hfz:∀ j,j<n+m->w.frozen? ⟨b,off+j,none⟩=false)
 (hvs:∀ j v,vs[j]? = some v->w.cell? ⟨vb,voff+j,none⟩=some v) (h1c:∀ v ∈ cs,v.oneCell'=true) (h1v:∀ v ∈ vs,v.oneCell'=true)
 (tA tB:TypeId) (kA kB:Nat) (hsa:w.shape? vb=some (tA,kA)) (hsb:w.shape? b=some (tB,kB)) (hkB:kB≠0) (hfa:w.frozen? ⟨vb,voff,none⟩=false) (hfe:w.frozen? ⟨vb,kA,none⟩=false):
 Calls Tryz.prog 27 #[.slice (some ⟨b,off,none⟩) n c,.int .i64 i,.slice (some ⟨vb,voff,none⟩) m vc] w λe w'=>
  e = .returned (.slice (some ⟨b,off,none⟩) (n+m) c)/\w'=(w.drew.setCells b (off+(i+m)) (cs.drop i)).setCells b (off+i) vs:=by
 have hz1:¬ ((m:Int)=0):=by omega
 have hz2:¬ ((i:Int)=(n:Int)):=by omega
 have hsz:(Tryz.prog.info? 81).map (·.size)=some 1:=by
  obtain ⟨i0,hi0,h0,h1,h2⟩:=info_parts Bc
  rw [hi0];simp [h1]
 have hov:∀ lb cb,(callFunc 71 #[.slice (some ⟨vb,voff,none⟩) m vc,.slice (some ⟨b,off+(i+m),none⟩) lb cb]).run Tryz.prog w = .ok (.value (.bool false)) w:=λlb cb=>by
  rw [run_callFunc_extern Tryz.func71 (by kernel_rfl) (by kernel_rfl) (by kernel_rfl) (e:=Extern.SlicesOverlaps.overlaps #[78,78] #[4]) (by kernel_rfl),
   Lib.run_overlaps_apart w 78 4 81 Tryz.underlying78 1 Zi ⟨vb,voff,none⟩ ⟨b,off+(i+m),none⟩ m vc lb cb hvb tA tB kA kB hsa hsb hkB hfa hfe]
  rfl
 have hdl:(cs.drop i).length=n-i:=by rw [WU,hcl]
 have mixed:=Ha
 have hw1:IntKind.i64.wrap ((i:Int)+(m:Int))=(i:Int)+(m:Int):=by rw [IntKind.wrap_i64];omega
 have hb1:(0:Int)<=(i:Int)+(m:Int):=by omega
 have hin:i<=n:=by omega
 have htn:((i:Int)+(m:Int)).toNat=i+m:=by omega
 have hb2:¬ (c=i+m):=by omega
 have hb3:(i:Int)<=(n:Int)+(m:Int):=by omega
 have hb4:¬ (c=i):=by omega
 have hcp1:∀ ty dc sc,(Builtin.copy_ #[78,78] ty #[.slice (some ⟨b,off+(i+m),none⟩) (n+m-(i+m)) dc,.slice (some ⟨b,off+i,none⟩) (n+m-i) sc]).run Tryz.prog w.drew = .ok (goInt (cs.drop i).length) (w.drew.setCells b (off+(i+m)) (cs.drop i)):=λty dc sc=>
  run_copy_cells w.drew _ _ ty 81 b (off+(i+m)) (n+m-(i+m)) dc ⟨b,off+i,none⟩ (n+m-i) sc (cs.drop i) Tryz.underlying78 hsz (by rw [hdl];simp only [YK0];split<;>omega)
   (λj v hj=>by rw [Addr.add_lit,Wh];exact hcs (i+j) v (by rwa [Yx]at hj))
   (λj hj=>by rw [Wh];exact hsp _ (by omega)) (λj hj=>by rw [Wh];exact hfz _ (by omega)) (λv hv=>h1c v (Qq hv))
 obtain ⟨W1,hW1⟩:∃ W1,W1=w.drew.setCells b (off+(i+m)) (cs.drop i):=⟨_,rfl⟩
 have hsp1:∀ k,k<n+m->(W1.cell? ⟨b,off+k,none⟩).isSome=true:=λk hk=>by
  rw [hW1]
  exact isSome_setCells b _ _ _ (λj hj=>by rw [Wh];exact hsp _ (by omega)) _ (hsp k hk)
 have hcp2:∀ (W:World),(∀ x,W.cell? x=W1.cell? x)->(∀ x,W.frozen? x=W1.frozen? x)->∀ ty dc,(Builtin.copy_ #[78,78] ty #[.slice (some ⟨b,off+i,none⟩) (n+m-i) dc,.slice (some ⟨vb,voff,none⟩) m vc]).run Tryz.prog W = .ok (goInt vs.length) (W.setCells b (off+i) vs):=λW hWc hWf ty dc=>
  run_copy_cells W _ _ ty 81 b (off+i) (n+m-i) dc ⟨vb,voff,none⟩ m vc vs Tryz.underlying78 hsz (by rw [hvl];simp only [YK0];split<;>omega)
   (λj v hj=>by
    rw [Addr.add_lit,hWc,hW1,World.cell?_setCells_out b _ _ _ _ (λh _=>absurd h hvb)]
    exact hvs j v hj)
   (λj hj=>by rw [hWc,Wh];exact hsp1 _ (by omega)) (λj hj=>by rw [hWf,hW1,World.frozen?_setCells,Wh];exact hfz _ (by omega)) h1v
 rw [<- hW1]at hcp1
 go_enter Tryz.func27,Tryz.ntmps27
 go_wp2_with (simp only [hov])
 go_region_law_o (refine step_copy_runI rfl _ _ 78 78 rfl _ _ (by simp [Act.eval,Act.put]) (by simp [Act.eval,Act.put]) (hcp1 _ _ _) ?_)
 go_wp2_with (at_builtin;refine wpList_copy_runI _ rfl _ _ 78 78 rfl _ _ rfl rfl (hcp2 _ (λ_=>rfl) (λ_=>rfl) _ _) ?_)
 go_ret
 first|exact ⟨rfl,rfl⟩|exact ⟨rfl,by rw [hW1]⟩
set_option maxHeartbeats 4000000 in
set_option maxRecDepth 100000 in
theorem Bd (base:Option Addr) (n c vb voff m vc:Nat) (cs vs:List Value) (w:World) (hm:0<m) (hnc:n<=c) (hroom:c<n+m) (hbig:(n+m)*8<=140737488355328)
 (hcl:cs.length=n) (hvl:vs.length=m) (NV:base=none->n=0)
 (hcs:∀ a,base=some a->∀ j v,cs[j]? = some v->w.cell? (a.add j)=some v)
 (hvs:∀ j v,vs[j]? = some v->w.cell? ⟨vb,voff+j,none⟩=some v) (h1v:∀ v ∈ vs,v.oneCell'=true):
 Calls Tryz.prog 27 #[.slice base n c,.int .i64 n,.slice (some ⟨vb,voff,none⟩) m vc] w λe w'=>
  e = .returned (.slice (some ⟨w.heap.size,0,none⟩) (n+m) (grownCap w (n+m) c 81))/\
  w'=w.drew.alloc (.cells ((cs ++ vs).toArray ++ Builtin.zeroCells (Value.nilFunc).cells (grownCap w (n+m) c 81-(n+m))) 81):=by
 have mixed:=Ha
 obtain ⟨i0,hi0,hz0,hzs,hzb⟩:=info_parts Bc
 have hz1:¬ ((m:Int)=0):=by omega
 have hsrc:Src Tryz.prog i0.size 78 (.slice (some ⟨vb,voff,none⟩) m vc) m vs w:=by
  rw [hzs]
  exact Src.ofSlice w Tryz.underlying78 ⟨vb,voff,none⟩ m vc vs (by omega) (λj u hj=>by rw [Addr.add_lit];exact hvs j u hj) h1v
 have hold:(Builtin.firstCells i0.size n (.slice base n c)).run Tryz.prog w.drew = .ok cs.toArray w.drew:=by
  rw [hzs]
  cases base with
  | none=>
   have h0:=NV rfl
   subst h0
   rw [List.length_eq_zero_iff.1 hcl]
   exact run_firstCells_none w.drew 1 0 0 c
  | some a=>exact run_firstCells_some w.drew 1 n a n c cs (by omega) (λj v hj=>hcs a rfl j v hj)
 have hrun:∀ ty,(Builtin.append_ #[78,78] ty #[.slice base n c,.slice (some ⟨vb,voff,none⟩) m vc]).run Tryz.prog w=_:=λty=>
  run_append_grow_src w 78 78 ty 81 i0 _ Tryz.underlying78 hi0 hz0 base n c cs hold _ m vs hsrc hroom (by omega) (by rw [hzb];exact growslice_fits hroom hbig)
 go_enter Tryz.func27,Tryz.ntmps27
 cases base with
 | none=>
  have h0:=NV rfl
  subst h0
  go_wp2_with (at_builtin;refine Lib.wpList_append_run _ rfl _ _ _ _ rfl _ _ rfl rfl _ _ (hrun _) ?_)
  go_ret
  exact ⟨rfl,rfl⟩
 | some a=>
  obtain ⟨ab,ao,asp⟩:=a
  go_wp2_with (at_builtin;refine Lib.wpList_append_run _ rfl _ _ _ _ rfl _ _ rfl rfl _ _ (hrun _) ?_)
  all_goals (go_ret;exact ⟨rfl,rfl⟩)
set_option maxHeartbeats 4000000 in
set_option maxRecDepth 100000 in
theorem NY (b off n c i vb voff m vc:Nat) (cs vs:List Value) (w:World) (hi:i<n) (hm:0<m) (hnc:n<=c) (hroom:c<n+m) (hbig:(n+m)*8<=140737488355328)
 (hcl:cs.length=n) (hvl:vs.length=m)
 (hcs:∀ j v,cs[j]? = some v->w.cell? ⟨b,off+j,none⟩=some v)
 (hvs:∀ j v,vs[j]? = some v->w.cell? ⟨vb,voff+j,none⟩=some v) (h1c:∀ v ∈ cs,v.oneCell'=true) (h1v:∀ v ∈ vs,v.oneCell'=true):
 Calls Tryz.prog 27 #[.slice (some ⟨b,off,none⟩) n c,.int .i64 i,.slice (some ⟨vb,voff,none⟩) m vc] w λe w'=>
  e = .returned (.slice (some ⟨w.heap.size,0,none⟩) (n+m) (grownCap w (n+m) c 81))/\
  w'=(((w.alloc (.cells ((cs.take i).toArray ++ Builtin.zeroCells (Value.nilFunc).cells (n+m-i) ++ Builtin.zeroCells (Value.nilFunc).cells (grownCap w (n+m) c 81-(n+m))) 81)).drew.setCells w.heap.size i vs).drew).setCells w.heap.size (i+m) (cs.drop i):=by
 have mixed:=Ha
 obtain ⟨i0,hi0,hz0,hzs,hzb⟩:=info_parts Bc
 have hz1:¬ ((m:Int)=0):=by omega
 have hz2:¬ ((i:Int)=(n:Int)):=by omega
 have hz3:(c:Int)<(n:Int)+(m:Int):=by omega
 have hsz:(Tryz.prog.info? 81).map (·.size)=some 1:=by rw [hi0];simp [hzs]
 have hbw:b<w.heap.size:=block_lt_of_cell (hcs 0 _ (YB (by omega)))
 have hvw:vb<w.heap.size:=block_lt_of_cell (hvs 0 _ (YB (by omega)))
 have hkk:(n:Int)+(m:Int)-(i:Int)=((n+m-i:Nat):Int):=by omega
 have hik:i+(n+m-i)=n+m:=by omega
 have hold:(Builtin.firstCells i0.size i (.slice (some ⟨b,off,none⟩) i c)).run Tryz.prog w.drew = .ok (cs.take i).toArray w.drew:=by
  rw [hzs]
  exact run_firstCells_some w.drew 1 i ⟨b,off,none⟩ i c (cs.take i) (by rw [List.length_take];omega) (λj v hj=>by
   rw [Addr.add_lit]
   rw [List.getElem?_take]at hj
   split at hj
   .exact hcs j v hj
   .cases hj)
 have hrz:∀ ty,(Builtin.append_ #[78,3] ty #[.slice (some ⟨b,off,none⟩) i c,.int .i64 ((n:Int)+(m:Int)-(i:Int))]).run Tryz.prog w =
  .ok (.slice (some ⟨w.heap.size,0,none⟩) (n+m) (grownCap w (n+m) c 81)) (w.drew.alloc (.cells ((cs.take i).toArray ++ Builtin.zeroCells (Value.nilFunc).cells (n+m-i) ++ Builtin.zeroCells (Value.nilFunc).cells (grownCap w (n+m) c 81-(n+m))) 81)):=λty=>by
  have h:=Lib.run_append_grow_zeros w 78 3 ty 81 i0 _ .i64 .i64 Tryz.underlying78 Tryz.underlying3 hi0 hz0 (some ⟨b,off,none⟩) i c (cs.take i) hold (n+m-i) (by omega) (by omega) (by omega) (by omega) (by rw [hzb];omega) (by rw [hzb,hik];exact growslice_fits hroom hbig)
  rw [hik]at h
  rw [hkk]
  exact h
 obtain ⟨G,hG⟩:∃ G,G=grownCap w (n+m) c 81:=⟨_,rfl⟩
 obtain ⟨ROW,hROW⟩:∃ ROW:Array Value,ROW=(cs.take i).toArray ++ Builtin.zeroCells (Value.nilFunc).cells (n+m-i) ++ Builtin.zeroCells (Value.nilFunc).cells (G-(n+m)):=⟨_,rfl⟩
 rw [<- hG]at hrz ⊢
 rw [<- hROW]at hrz ⊢
 have hRl:n+m<=ROW.size:=by
  rw [hROW]
  simp [Builtin.zeroCells,Value.cells]
  omega
 obtain ⟨W1,hW1⟩:∃ W1,W1=w.drew.alloc (.cells ROW 81):=⟨_,rfl⟩
 rw [<- hW1]at hrz
 have hN:∀ j,j<n+m->(W1.cell? ⟨w.heap.size,j,none⟩).isSome=true:=λj hj=>by
  rw [hW1,World.cell?_alloc_at (w:=w.drew) ROW _ w.heap.size j rfl,YQ (by omega)];rfl
 have hNf:∀ j,W1.frozen? ⟨w.heap.size,j,none⟩=false:=λj=>by rw [hW1];exact World.frozen?_alloc_at (w:=w.drew) ROW _ w.heap.size j rfl
 have hOb:∀ j v,w.cell? ⟨b,j,none⟩=some v->W1.cell? ⟨b,j,none⟩=some v:=λj v h=>by rw [hW1,World.cell?_alloc_past (w:=w.drew) _ b j hbw];exact h
 have hOv:∀ j v,w.cell? ⟨vb,j,none⟩=some v->W1.cell? ⟨vb,j,none⟩=some v:=λj v h=>by rw [hW1,World.cell?_alloc_past (w:=w.drew) _ vb j hvw];exact h
 have hcpA:∀ (W:World),(∀ x,W.cell? x=W1.cell? x)->(∀ x,W.frozen? x=W1.frozen? x)->∀ ty dc,(Builtin.copy_ #[78,78] ty #[.slice (some ⟨w.heap.size,i,none⟩) (n+m-i) dc,.slice (some ⟨vb,voff,none⟩) m vc]).run Tryz.prog W = .ok (goInt vs.length) (W.setCells w.heap.size i vs):=λW hWc hWf ty dc=>
  run_copy_cells W _ _ ty 81 w.heap.size i (n+m-i) dc ⟨vb,voff,none⟩ m vc vs Tryz.underlying78 hsz (by rw [hvl];simp only [YK0];split<;>omega)
   (λj v hj=>by rw [Addr.add_lit,hWc];exact hOv _ v (hvs j v hj))
   (λj hj=>by rw [hWc];exact hN _ (by omega)) (λj hj=>by rw [hWf];exact hNf _) h1v
 have hGn:n+m<=G:=by rw [hG];exact grownCap_ge w _ _ _
 have hG63:G<=9223372036854775807:=by
  have:=grownCap_le_maxLen w (n+m) c 81 (by unfold maxLen;omega)
  rw [<- hG]at this
  unfold maxLen at this
  omega
 have hGi:¬ (G=i):=by omega
 have hGim:¬ (G=i+m):=by omega
 have hci:¬ (c=i):=by omega
 have hbN:b≠w.heap.size:=by omega
 have hdl:(cs.drop i).length=n-i:=by rw [WU,hcl]
 have hcpB:∀ (W:World),(∀ x,W.cell? x=(W1.setCells w.heap.size i vs).cell? x)->(∀ x,W.frozen? x=(W1.setCells w.heap.size i vs).frozen? x)->∀ ty dc sc,(Builtin.copy_ #[78,78] ty #[.slice (some ⟨w.heap.size,i+m,none⟩) (n+m-(i+m)) dc,.slice (some ⟨b,off+i,none⟩) (n-i) sc]).run Tryz.prog W = .ok (goInt (cs.drop i).length) (W.setCells w.heap.size (i+m) (cs.drop i)):=λW hWc hWf ty dc sc=>
  run_copy_cells W _ _ ty 81 w.heap.size (i+m) (n+m-(i+m)) dc ⟨b,off+i,none⟩ (n-i) sc (cs.drop i) Tryz.underlying78 hsz (by rw [hdl];simp only [YK0];split<;>omega)
   (λj v hj=>by
    rw [Addr.add_lit,hWc,World.cell?_setCells_out _ _ _ _ _ (λh _=>absurd h hbN),Wh]
    exact hOb _ v (hcs (i+j) v (by rwa [Yx]at hj)))
   (λj hj=>by rw [hWc];exact isSome_setCells _ _ _ _ (λt ht=>hN _ (by omega)) _ (hN _ (by omega)))
   (λj hj=>by rw [hWf,World.frozen?_setCells];exact hNf _) (λv hv=>h1c v (Qq hv))
 subst hW1
 have hE1:∀ x,((w.alloc (.cells ROW 81)).drew).cell? x=(w.drew.alloc (.cells ROW 81)).cell? x:=λx=>rfl
 have hE2:∀ x,((w.alloc (.cells ROW 81)).drew).frozen? x=(w.drew.alloc (.cells ROW 81)).frozen? x:=λx=>rfl
 have hF1:∀ x,(((w.alloc (.cells ROW 81)).drew.setCells w.heap.size i vs).drew).cell? x=((w.drew.alloc (.cells ROW 81)).setCells w.heap.size i vs).cell? x:=λx=>rfl
 have hF2:∀ x,(((w.alloc (.cells ROW 81)).drew.setCells w.heap.size i vs).drew).frozen? x=((w.drew.alloc (.cells ROW 81)).setCells w.heap.size i vs).frozen? x:=λx=>rfl
 have hw1:IntKind.i64.wrap ((i:Int)+(m:Int))=(i:Int)+(m:Int):=by rw [IntKind.wrap_i64];omega
 have hb1:(0:Int)<=(i:Int)+(m:Int):=by omega
 have hin:i<=n:=by omega
 have htn:((i:Int)+(m:Int)).toNat=i+m:=by omega
 have hb3:(i:Int)<=(n:Int):=by omega
 clear hkk hik hold hROW hG hRl
 go_enter Tryz.func27,Tryz.ntmps27
 go_wp2_with (first
  | (at_builtin;refine Lib.wpList_append_run _ rfl _ _ _ _ rfl _ _ rfl rfl _ _ (hrz _) ?_)
  | (at_builtin;refine wpList_copy_runI _ rfl _ _ 78 78 rfl _ _ rfl rfl (hcpA _ hE1 hE2 _ _) ?_)
  | (at_builtin;refine wpList_copy_runI _ rfl _ _ 78 78 rfl _ _ rfl rfl (hcpB _ (λ_=>rfl) (λ_=>rfl) _ _ _) ?_))
 go_region_law_o (refine step_copy_runI rfl _ _ 78 78 rfl (.slice (some ⟨w.heap.size,i+m,none⟩) (n+m-(i+m)) (G-(i+m))) (.slice (some ⟨b,off+i,none⟩) (n-i) (c-i)) (by simp [Act.eval,Act.put]) (by simp [Act.eval,Act.put]) (hcpB _ hF1 hF2 3 (G-(i+m)) (c-i)) ?_)
 go_wp2
 go_ret
 exact ⟨rfl,rfl⟩
theorem Dz:vA Tryz.prog 27 where
 Jl:=⟨_,_,Tryz.func27,rfl,by kernel_rfl⟩
 NV vb voff m vc vs w hm hmb hmc hvl hvs h1v:=by
  refine (Bd none 0 0 vb voff m vc [] vs w hm (Nat.le_refl _) (by omega) (by omega) rfl hvl (λ_=>rfl) (λ_ h=>by cases h) hvs h1v).mono ?_
  rintro e w' ⟨rfl,rfl⟩
  have hc1:=grownCap_ge w (0+m) 0 81
  have hc2:=grownCap_le_maxLen w (0+m) 0 81 (by unfold maxLen;omega)
  unfold maxLen at hc2
  rw [WJ]at hc1 hc2 ⊢
  exact ⟨_,_,_,rfl,hc1,by omega,by simp [Builtin.zeroCells,Value.cells],⟨rfl,rfl,rfl⟩,rfl⟩
 bC b n c vb voff m vc cs vs cur vcur el vel fr vfr w hne hn hnb hm hmb hnc hc63 hmc hb hcur hfr hvb hvfr hvns hcl hcs h1c hvl hvs h1v:=by
  have hcs':∀ (j:Nat) v,cs[j]? = some v->w.cell? ⟨b,0+j,none⟩=some v:=λj v hj=>by simp [World.cell?,hb,hcs j v hj]
  have hvs':∀ (j:Nat) v,vs[j]? = some v->w.cell? ⟨vb,voff+j,none⟩=some v:=λj v hj=>by simp [World.cell?,hvb,hvs j v hj]
  by_cases hroom:n+m<=c
  .have hsp:∀ j,j<n+m->(w.cell? ⟨b,0+j,none⟩).isSome=true:=λj hj=>by
    have hlt:0+j<cur.size:=by omega
    rw [World.cell?]
    simp only [hb]
    rw [YQ hlt]
    rfl
   have hfz:∀ j,j<n+m->w.frozen? ⟨b,0+j,none⟩=false:=λj hj=>by
    have:=hfr (0+j) (by omega)
    simp only [World.frozen?,hb]
    simpa using this
   have hvoff:voff<vcur.size:=by
    have h0:vs[0]? = some vs[0]:=YB (by omega)
    have:=hvs 0 _ h0
    exact (Array.getElem?_eq_some_iff.1 this).1
   refine (Kv b 0 n c 0 vb voff m vc cs vs w hn hm hroom (by omega) hne hcl hvl hcs' hsp hfz hvs' h1c h1v vel el vcur.size cur.size (by simp [World.shape?,hvb]) (by simp [World.shape?,hb]) (by omega) (by
    have:=hvfr voff hvoff
    simp only [World.frozen?,hvb]
    simpa using this) (by
    simp only [World.frozen?,hvb]
    simpa using hvns)).mono ?_
   rintro e w' ⟨rfl,rfl⟩
   obtain ⟨c1,a1,a2,a3,a4,a5,a6⟩:=gW (b:=b) (el:=el) (fr:=fr) (cs.drop 0) (0+(0+m)) w.drew cur hb (by simp;omega)
   obtain ⟨c2,b1,b2,b3,b4,b5,b6⟩:=gW (b:=b) (el:=el) (fr:=fr) vs (0+0) _ c1 a1 (by omega)
   refine Or.inl ⟨c2,hroom,rfl,b1,by omega,λj v hj=>?_,λj hj=>(b4 j hj).trans (a4 j hj),b5.trans a5,⟨b6.os.trans a6.os,b6.tape.trans a6.tape,b6.output.trans a6.output⟩⟩
   rw [b3 j]
   by_cases hjm:j<vs.length
   .rw [Ym hjm]at hj
    rw [if_pos (by omega)]
    simpa using hj
   .rw [Yt (by omega)]at hj
    have hjl:=(YX.1 hj).1
    rw [if_neg (by omega),a3 j,if_pos (by simp;omega)]
    simp only [WV,WJ]
    rw [<- hvl]
    exact hj
  .refine (NY b 0 n c 0 vb voff m vc cs vs w hn hm hnc (by omega) (by omega) hcl hvl hcs' hvs' h1c h1v).mono ?_
   rintro e w' ⟨rfl,rfl⟩
   have hc1:=grownCap_ge w (n+m) c 81
   have hc2:=grownCap_le_maxLen w (n+m) c 81 (by unfold maxLen;omega)
   unfold maxLen at hc2
   generalize grownCap w (n+m) c 81=G at hc1 hc2 ⊢
   have hsz:((cs.take 0).toArray ++ Builtin.zeroCells (Value.nilFunc).cells (n+m-0) ++ Builtin.zeroCells (Value.nilFunc).cells (G-(n+m))).size=G:=by
    simp [Builtin.zeroCells,Value.cells]
    omega
   generalize (cs.take 0).toArray ++ Builtin.zeroCells (Value.nilFunc).cells (n+m-0) ++ Builtin.zeroCells (Value.nilFunc).cells (G-(n+m))=ROW at hsz ⊢
   have h0:(w.alloc (.cells ROW 81)).drew.heap[w.heap.size]? = some (.cells ROW 81):=World.alloc_heap_new w _
   obtain ⟨c1,a1,a2,a3,a4,a5,a6⟩:=gW (b:=w.heap.size) vs 0 _ ROW h0 (by omega)
   obtain ⟨c2,b1,b2,b3,b4,b5,b6⟩:=gW (b:=w.heap.size) (cs.drop 0) (0+m) ((w.alloc (.cells ROW 81)).drew.setCells w.heap.size 0 vs).drew c1 a1 (by simp;omega)
   refine Or.inr ⟨G,c2,_,rfl,hc1,by omega,by omega,λj v hj=>?_,⟨b6.os.trans a6.os,b6.tape.trans a6.tape,b6.output.trans a6.output⟩,?_,b1,λj hj=>?_⟩
   .rw [b3 j]
    by_cases hjm:j<vs.length
    .rw [Ym hjm]at hj
     rw [if_neg (by simp;omega),a3 j,if_pos (by omega)]
     simpa using hj
    .rw [Yt (by omega)]at hj
     have hjl:=(YX.1 hj).1
     rw [if_pos (by simp;omega)]
     simp only [WV,WJ]
     rw [<- hvl]
     exact hj
   .exact (b5.trans a5).trans (Array.size_push ..)
   .exact (b4 j (by omega)).trans ((a4 j (by omega)).trans (Below.heap_alloc _ _ _ hj))
end Go.Proofs.YtalmhjlkdhlbiaaGreatDoor
