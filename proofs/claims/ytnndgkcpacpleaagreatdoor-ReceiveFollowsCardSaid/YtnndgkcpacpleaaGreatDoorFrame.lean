/- frame: contracts of the program's functions. -/
import Derived.Test.YtnndgkcpacpleaaGreatDoorSeal
import Derived.Test.YtnndgkcpacpleaaGreatDoorShelf
import Derived.Deep.RegionHeld3
import Derived.BigRegion
set_option maxRecDepth 100000
namespace Go.Proofs.YtnndgkcpacpleaaGreatDoor
open Go.RowKit Go.Wd
theorem AF (xs:List (List UInt8)):Lib.join xs []=xs.flatten:=by
 cases xs with
 | nil=>rfl
 | cons x r=>rw [Lib.join_cons];simp [Lib.joinTail]
theorem GA (bk o c:Nat) (xs:List (List UInt8)) (w:World) (hcells:∀ (j:Nat) x,xs[j]? = some x->w.cell? ⟨bk,o+j,none⟩=some (.string (fQ x))) (hbk:bk<w.heap.size)
 (hcap:xs.length<=c) (hlen:xs.flatten.length<=100000000) (hN:xs.length<=100000000):
 Calls Tryz.prog 185 #[.slice (some ⟨bk,o,none⟩) xs.length c] w λe w'=>e = .returned (.string (fQ xs.flatten))/\Below w.heap.size w w':=by
 have hm:(xs.map fQ).map (λs:ByteArray=>s.data.toList)=xs:=by
  rw [List.map_map]
  exact List.map_id' xs
 have h:=Tryz.strings_Join bk o c (xs.map fQ) (fQ []) w (λj x hx=>by
  rw [List.getElem?_map]at hx
  obtain ⟨y,hy,rfl⟩:=Option.map_eq_some_iff.1 hx
  exact hcells j y hy) hbk (by simp;omega) (by simpa using hcap) (by rw [hm,wj,AF];omega)
 rw [hm,wj,AF,List.length_map]at h
 have H:=Lib.hid h
 clear h hcells hm
 go_enter Tryz.func185,Tryz.ntmps185
 go_wp2_with fail
 refine (H.out).mono ?_
 rintro e w1 ⟨rfl,hb⟩
 go_wp2_with fail
 go_ret
 exact ⟨rfl,hb⟩
/-- Two bytes of a length. -/
def qF (n:Nat):List UInt8:=[UInt8.ofNat (n/256),UInt8.ofNat n]
/-- A text's frame,without what fills it up. -/
def eQ (l:List UInt8):List UInt8:=qF l.length ++ lW (Crc.sum l) ++ l
theorem Bl (l:List UInt8) (w:World) (hs:l.length<=10000000):
 Calls Tryz.prog 173 #[.string (fQ l)] w λe w'=>e = .returned (.string (fQ (eQ l)))/\Below w.heap.size w w':=by
 go_enter Tryz.func173,Tryz.ntmps173
 go_wp2_with fail
 refine (Tv l _ (by omega)).mono ?_
 rintro e w1 ⟨rfl,hb1⟩
 have h4:=nC (Crc.sum l)
 have Hw:Hid (eQ l=qF l.length ++ lW (Crc.sum l) ++ l):=rfl
 generalize lW (Crc.sum l)=q at *
 go_wp2_with fail
 have i1:(0:Int)<=(l.length:Int):=by omega
 have i2:(l.length:Int)<=((l ++ q).length:Int):=by simp;omega
 have hcv:Sem.run Tryz.prog (convert 64 9 (Value.slice (some ⟨w1.heap.size,0,none⟩) 2 2))
  (w1.alloc (Obj.cells #[Value.int IntKind.u8 (IntKind.u8.wrap ((l.length:Int)/256)),Value.int IntKind.u8 (IntKind.u8.wrap (l.length:Int))] 5)).drew =
  .ok (.string (fQ (qF l.length))) (w1.alloc (Obj.cells #[Value.int IntKind.u8 (IntKind.u8.wrap ((l.length:Int)/256)),Value.int IntKind.u8 (IntKind.u8.wrap (l.length:Int))] 5)).drew:=
  kU (Own.drew (Own.new _ _ _)) 64 9 5 0 2 2 (qF l.length) Tryz.underlying64 Tryz.underlying5 Tryz.underlying9 rfl (λj hj=>by
   match j,hj with
   | 0,_=>simp [qF,IntKind.wrap_u8']
   | 1,_=>simp [qF,IntKind.wrap_u8']
   | j+2,h=>exact absurd h (by simp [qF]))
 have hcv2:Sem.run Tryz.prog (convert 64 9 (Value.slice (some ⟨w1.heap.size,0,none⟩) 2 2))
  (w1.alloc (Obj.cells #[Value.int IntKind.u8 ((l.length:Int)/256%256),Value.int IntKind.u8 ((l.length:Int)%256)] 5)).drew =
  .ok (.string (fQ (qF l.length))) (w1.alloc (Obj.cells #[Value.int IntKind.u8 ((l.length:Int)/256%256),Value.int IntKind.u8 ((l.length:Int)%256)] 5)).drew:=by
  rw [IntKind.wrap_u8',IntKind.wrap_u8']at hcv;exact hcv
 have hlB:(qF l.length).length=2:=rfl
 have hj:=GA (w1.heap.size+1) 0 3 [qF l.length,q,l]
  ((w1.alloc (Obj.cells #[Value.int IntKind.u8 ((l.length:Int)/256%256),Value.int IntKind.u8 ((l.length:Int)%256)] 5)).alloc
   (Obj.cells #[Value.string (fQ (qF l.length)),Value.string (fQ q),Value.string (fQ l)] 9)).drew
  (λj x hx=>by
   have o:=(Own.new (w1.alloc (Obj.cells #[Value.int IntKind.u8 ((l.length:Int)/256%256),Value.int IntKind.u8 ((l.length:Int)%256)] 5)) #[Value.string (fQ (qF l.length)),Value.string (fQ q),Value.string (fQ l)] 9).drew
   rw [World.size_alloc]at o
   rw [Nat.zero_add]
   refine o.EB ?_
   match j,hx with
   | 0,hx=>cases hx;rfl
   | 1,hx=>cases hx;rfl
   | 2,hx=>cases hx;rfl)
  (by simp) (by simp) (by simp;omega) (by simp)
 have HJ:=Lib.hid hj
 have htk:List.take 4 q=q:=List.take_of_length_le (by omega)
 clear hj
 go_region_with (go_at_call 185;refine (HJ.out).mono ?_;rintro e w2 ⟨rfl,hb2⟩)
 all_goals go_wp2_with fail
 all_goals go_ret
 all_goals
  refine ⟨by rw [Hw.out,List.append_assoc];rfl,?_⟩
  exact ((hb1.alloc hb1.size _).alloc (by have:=hb1.size;simp;omega) _).drew.trans (hb2.mono (by have:=hb1.size;simp;omega))
end Go.Proofs.YtnndgkcpacpleaaGreatDoor
