/- THE LAW VaultChain returns true: whatever changes are made to a vault with room and to a chain,both answer and tell the same,also when the vault is opened anew. No condition. -/
import Derived.Test.YtabnemidjklolaaGreatDoorVC
import Derived.Test.YtabnemidjklolaaGreatDoorEvFrame
import Derived.Test.YtabnemidjklolaaGreatDoorEvCrc2
import Derived.Test.YtabnemidjklolaaGreatDoorEvJoin2
import Derived.Test.YtabnemidjklolaaGreatDoorCards
import Derived.Test.YtabnemidjklolaaGreatDoorTie
import Derived.ProofKit
import Derived.OpenShut
import Derived.ShutString
import Derived.Carry
import Derived.LaidMore
import Derived.Lay
import Derived.SevenTiedAt
import Derived.Stop.Joined
open Nat renaming beq→YN
namespace Go.Proofs.YtabnemidjklolaaGreatDoor.vaultChain
open Go.ChangeShapes Go.WideShapes Go.ChangeAt Go.RowKit Go.Ev
theorem own:ownKnob Tryz.prog.godebug=none:=by kernel_rfl
theorem laidOut:laidOutB Tryz.prog=true:=by kernel_rfl
noncomputable def TG:Nat->Option df:=λf=>Bool.rec (motive:=λ_=>Option df) (Bool.rec (motive:=λ_=>Option df) ((Tryz.prog.funcs[f]?).bind (gi Tryz.prog f)) (some (.nat KN)) (YN f 165)) (some (.nat BT)) (YN f 144)
theorem Jx:eE Tryz.prog TG:=eE.nat Sh.nat (eE.nat Av (eE.base (by kernel_rfl)))
set_option maxRecDepth 100000in theorem run:@Eq Nat (aU (aO Tryz.prog) TG 100000 100 (.func (2*7) []) [] H0 isTrue) (nat_lit 1):=by kernel_rfl
set_option maxRecDepth 100000in theorem ran(w:World):Calls Tryz.prog 7 #[] w λe w'=>e=.returned (.bool true)/\Below w.heap.size w w':=known (by kernel_rfl) Jx Tryz.func7 rfl (by kernel_rfl) run w
theorem yu:tU Tryz.prog 7 mS:=λargs H k h=>by match args,h with
 |[],h=>
  refine⟨.bool true,H,gS.mj Tryz.func7 rfl rfl λbase w0 rho w cargs hp hv=>?_,h⟩;have hc:cargs=#[]:=by simp only[bZ]at hv;cases cargs;simp_all
  subst hc;exact⟨.bool true,by simp only[VR],ran w⟩|_::_,h=>exact(aw h).elim
noncomputable def mH:Nat->Option df:=λf=>Bool.rec (motive:=λ_=>Option df) (Bool.rec (motive:=λ_=>Option df) (Bool.rec (motive:=λ_=>Option df) ((Tryz.prog.funcs[f]?).bind (gi Tryz.prog f)) (some (.nat mS)) (YN f 7)) (some (.nat (dj fq))) (YN f 110)) (some (.nat (dF cT))) (YN f 85)
theorem TH:eE Tryz.prog mH:=eE.nat sh (eE.nat xC (eE.nat yu (eE.base (by kernel_rfl))))
theorem yd(f:Nat)(h:(YN f 85=false/\YN f 110=false)/\YN f 7=false):mH f=(Tryz.prog.funcs[f]?).bind (gi Tryz.prog f):=by obtain⟨⟨h1,h2⟩,h3⟩:=h;unfold mH;rw[h1,h2,h3]
set_option maxRecDepth 100000in theorem others:∀f∈vr,(YN f 85=false/\YN f 110=false)/\YN f 7=false:=by unfold vr;decide
theorem Rj:aB mH:=aB.over (λf hf=>yd f (others f hf)) Y4
theorem JN:mH 7=some (.nat mS):=by unfold mH;rw[show YN 7 85=false from rfl,show YN 7 110=false from rfl,show YN 7 7=true from rfl]
theorem packed:mH 110=some (.nat (dj fq)):=by unfold mH;rw[show YN 110 85=false from rfl,show YN 110 110=true from rfl]
theorem yh:mH 85=some (.nat (dF cT)):=by unfold mH;rw[show YN 85 85=true from rfl]
theorem walk{w:World}{v0:Value}{ds:List D3}(h0:(uH w.heap.size v0).one=true)(a0:rB (eR w) (uH w.heap.size v0) ds):Calls Tryz.prog 3 #[v0] w λe w'=>e=.returned (.bool true)/\Below w.heap.size w w':=by refine wq (by kernel_rfl) TH (fuel:=2000000) (depth:=0+12) (args:=[uH w.heap.size v0]) ?_ λk x hx=>uY (fuel:=2000000) Rj rfl KC packed yh JN (Da w) a0 (by decide) 0 k x hx;simp only[bZ];exact⟨_,_,rfl,CA w v0 h0,rfl⟩
set_option maxRecDepth 100000in theorem lifted(os:Os)(started:os.Started)(H:Type)(enc:TypeId×Value->H):ReturnsInHanded {} Tryz.checked os 3 .any (λw args=>(Rows.vaultChainSpec.pre enc Tryz.prog Tryz.f3 Rows.vaultChainRow.domain false w args/\laidMetH Tryz.prog Rows.vaultChainRow.laid w)/\sizedMet enc Tryz.prog Tryz.f3 (OpenSpec.ofChange Rows.vaultChainSpec) false w args) (Rows.vaultChainSpec.post enc Tryz.prog Tryz.f3 false true false false):=by
 refine returnsInHanded_of_change_and (C:=Tryz.checked) (X:=λw _=>laidMetH Tryz.prog Rows.vaultChainRow.laid w) (λ_ _ _ hh h=>h.of_heap hh) own started (by kernel_rfl) Tryz.func3 (ChangeSpec.witness_shaped (enc:=enc) (C:=Tryz.checked) (os:=os) (X:=λw _=>laidMetH Tryz.prog Rows.vaultChainRow.laid w) false (World.laidAll Tryz.prog os Rows.vaultChainRow.laid) #[.slice none 0 0] 8 (World.laidAll_os _ _ _) (World.shaped_of_ZipB (by kernel_rfl) (by kernel_rfl)) (by kernel_rfl) (by kernel_rfl) (by kernel_rfl) (by rw[MakeChecks.laidMetH_plain _ _ _ (by kernel_rfl)];exact laidMet_laidAll _ (by kernel_rfl) (by kernel_rfl))) ?_;intro W base args ds gs before hval0 hW hc _ hL _;have hval:∀(j:Nat)t v,Tryz.f3.params[j]?=some t->args[j]?=some v->Value.okWide Tryz.prog W .any base t v:=hval0;have hW':=hW;obtain⟨p,q,hA0,hV,rfl,hnf,_⟩:=hW;have hA:DataW.TrodAll enc Tryz.prog W 0 (λ_=>true) true Tryz.f3.params.toList args.toList ds p:=hA0;rw[Tryz.params3]at hA hval;obtain⟨v0,d0,rfl,rfl,k0⟩:=trodAll_one hA;obtain⟨rfl,rfl⟩:=trodVars_none hV;obtain⟨a0,len0,cap0,rfl⟩:=okWide_slice Tryz.underlying22 (hval 0 22 v0 rfl rfl);have lt0:∀x∈p,x.block<W.heap.size:=by obtain⟨m,hm⟩:=k0;exact DataW.trod_lt m _ _ _ hm
 have nf0:W.noneFrozen p:=λb off h=>hnf b off (by simp[h]);obtain⟨ds,s0⟩:∃ds,rB (eR W) (uH W.heap.size (.slice a0 len0 cap0)) ds:=by obtain⟨m,hm⟩:=k0;exact Ea (x:=(d0,p)) Tryz.underlying22 Tryz.underlying34 (by kernel_rfl) rfl rfl rfl (by kernel_rfl) (by kernel_rfl) (by kernel_rfl) (by kernel_rfl) (by kernel_rfl) (by kernel_rfl) hm nf0
 simp only[List.append_nil]at hW';refine(walk s0.row.one s0).mono λe W'⟨he,bel⟩=>?_;subst he;exact⟨_,rfl,_,_,_,[],_,[],hW',trodAll_mk1 (shut_bool Tryz.underlying4 _),(trodAll_mk1 (Below.trod laidOut (by kernel_rfl) (of_decide_eq_true (by kernel_rfl)) k0 bel lt0)),rfl,bel.frame _,λh=>by cases h⟩
theorem holds:Rows.VaultChainSaid:=OpenClaim.holds_of_wide 3 Tryz.f3 rfl rfl rfl rfl rfl rfl rfl ⟨rfl,rfl,rfl,rfl,rfl⟩ rfl rfl rfl rfl rfl (by kernel_rfl) Tryz.func3 (by kernel_rfl) (of_decide_eq_true (by kernel_rfl)) (by unfold Func.isWrapper;first|(rw[if_pos (by decide+kernel)];kernel_rfl)|(rw[if_neg (by decide+kernel)];exact⟨rfl,rfl⟩)) (λos started H enc _=>lifted os started H enc)
theorem plain(f:FuncId)(fn:Func)(hf:Tryz.pinned.checked.prog.funcNamed "stemma/stemmalaw10.VaultChain"=some f)(MX:Tryz.pinned.checked.prog.funcs[f]?=some fn):false=Tryz.pinned.checked.prog.looks []/\∀(j:Nat)t,fn.params[j]?=some t->Tryz.pinned.checked.prog.wantsStandIn t=false:=by
 obtain rfl:f=3:=Option.some.inj ((show Tryz.prog.funcNamed "stemma/stemmalaw10.VaultChain"=some 3by kernel_rfl).symm.trans hf)|>.symm;obtain rfl:fn=Tryz.f3:=(Option.some.inj (Tryz.func3.symm.trans MX)).symm;refine⟨by kernel_rfl,λj t ht=>?_⟩;rw[Tryz.params3]at ht;have hm:t∈[22]:=by simpa using Array.mem_of_getElem? ht
 have hall:([22].all λu=>!Tryz.prog.wantsStandIn u)=true:=by kernel_rfl
 exact(show Tryz.prog.wantsStandIn t=false by simpa using List.all_eq_true.1 hall t hm)
/-- ████ THE CARD ████ -/
theorem proved:Rows.VaultChainCardSaid:=
 Claim7.holds_tied_plain_at .later [] _ _ _ _ holds (λ_ h=>by cases h) (by kernel_rfl) (λ_ h=>by cases h) vaultChain_row_tie rfl ⟨rfl,rfl⟩ (by kernel_rfl) rfl plain (by kernel_rfl)
#printaxioms proved
end Go.Proofs.YtabnemidjklolaaGreatDoor.vaultChain
