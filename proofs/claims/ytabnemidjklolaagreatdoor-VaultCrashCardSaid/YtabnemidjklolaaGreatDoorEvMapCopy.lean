/- maps.Copy,taken by its contract. -/
import Derived.Test.YtabnemidjklolaaGreatDoorEvE
import Derived.Test.YtabnemidjklolaaGreatDoorProg
import Derived.WalkKit
import Derived.ProofKit
import Derived.Laws.IdiomRangeMap
import Derived.Maps.RangeRun
import Derived.Maps.RangeWalk
import Derived.Maps.Own
import Derived.Laws.Externs
open Array renaming getElem?_eq_some_iff→YO
set_option linter.unusedVariables false
set_option linter.unusedSimpArgs false
namespace Go.Proofs.YtabnemidjklolaaGreatDoor
open Go.RowKit Go.Ev Go.WideShapes
set_option maxHeartbeats 4000000in set_option maxRecDepth 100000in theorem XJ:Cq Tryz.prog 74where
 Mk:=⟨_,_,Tryz.func74,rfl,by kernel_rfl⟩;BG m w bd bs cD cS D S esd ess hne hd hs eD eS sD sS kD kS hint hkd:=by
  have hbd:bd<w.heap.size:=(YO.1 hd).1;have hbs:bs<w.heap.size:=(YO.1 hs).1;have hrg:=run_range_map (P:=Tryz.prog) w 115 _ _ bs S cS Tryz.underlying115 hs;have hst:=W0.start hne eS sS kS hint hkd hd hs eD sD kD;have hround:=@W0.round m w bd bs cS S esd ess hne eS sS kS hint hkd Tryz.prog 115 _ _ _ Tryz.underlying115 Tryz.underlying3 (Or.inl ⟨rfl,_,rfl⟩);clear hd hs eD eS sD sS kD kS hint hkd;go_enter Tryz.func74,Tryz.ntmps74;go_wp2;go_loopw[8](λ_ wr=>∃seen esd' D' cD',W0 m w bd bs cS S esd ess seen esd' D' cD' wr)(λ_ wr=>wr.rangeLeft bs w.heap.size);case atStart=>exact⟨_,_,_,_,hst⟩
  case round=>
   obtain⟨seen,esd',D',cD',h⟩:=hrel;rcases hround h hbs hbd 0with⟨h0,hnx,hov⟩|⟨kx,vy,w1,w2,seen2,esd2,D2,cD2,hnx,hen,hmu,h2,hlt⟩;.clear hround hrg hst;go_wp2;go_end0;exact⟨rfl,D',cD',esd',h.dst,h.ents,h.st,h.keys,hov,h.frame,by rw[h.size];omega,h.same⟩
   .clear hround hrg hst;go_wp2;go_roundw;case rel=>exact⟨_,_,_,_,h2⟩
    case measure=>simp only[World.rangeLeft,h.src,h.it,h2.src,h2.it];exact hlt
end Go.Proofs.YtabnemidjklolaaGreatDoor
