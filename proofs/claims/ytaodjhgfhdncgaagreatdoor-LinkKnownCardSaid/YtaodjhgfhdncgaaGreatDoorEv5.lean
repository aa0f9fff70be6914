/- FUNCTIONS THAT ARE TAKEN BY THEIR CONTRACTS: what the evaluator does in their place. -/
import Derived.Test.YtaodjhgfhdncgaaGreatDoorEv4
set_option linter.unusedVariables false
set_option linter.unusedSimpArgs false
set_option linter.unusedSectionVars false
namespace Go.Ev
noncomputable def joinL (sl sn : Nat) (l : List V) : (Nat → Nat → R) → R := List.rec (motive := fun _ => (Nat → Nat → R) → R) (fun k => k 0 0)
  (fun v r ih k => vStr 0 v fun l n => List.rec (motive := fun _ => R) (k l n) (fun _ _ _ => ih fun rl rn =>
    forceN (Nat.add l (Nat.add sl rl)) fun tl => forceN (Nat.add n (Nat.shiftLeft (Nat.add sn (Nat.shiftLeft rn (Nat.mul 8 sl))) (Nat.mul 8 l))) fun tn => k tl tn) r) l
noncomputable def nJoin (args : List V) (H : Heap) (k : K) : R := nth 0 args 0 fun x => nth 0 args 1 fun s => vStr 0 s fun sl sn => vSliceN 0 x (fun b o n _ _ => loadN 0 H b o n fun l => joinL sl sn l fun l n => k (.str l n) H) (k (.str 0 0) H)
noncomputable def trimLo (c : Nat) (l : Nat) : Nat → (Nat → Nat → R) → R := Nat.rec (motive := fun _ => Nat → (Nat → Nat → R) → R) (fun n k => k 0 n) (fun m ih n k => ifB (Nat.beq (Nat.mod n 256) c) (forceN (Nat.div n 256) fun n' => ih n' k) (k (Nat.succ m) n)) l
noncomputable def trimHi (c : Nat) (l : Nat) : Nat → (Nat → Nat → R) → R := Nat.rec (motive := fun _ => Nat → (Nat → Nat → R) → R) (fun n k => k 0 n) (fun m ih n k => ifB (Nat.beq (Nat.shiftRight n (Nat.mul 8 m)) c) (forceN (Nat.mod n (Nat.pow 256 m)) fun n' => ih n' k) (k (Nat.succ m) n)) l
noncomputable def nTrim (args : List V) (H : Heap) (k : K) : R := nth 0 args 0 fun x => nth 0 args 1 fun s => vStr 0 x fun l n => vStr 0 s fun sl c => ifB (Nat.beq sl 1) (trimLo c l n fun l n => trimHi c l n fun l n => k (.str l n) H) (no 0)
noncomputable def crcHalf (c b : Nat) (k : Nat → R) : R := forceN (Nat.xor (Nat.shiftRight c 4) (Nat.land (Nat.shiftRight 9937593612760466100516450665319420528403982636753068485404800763335476026940182181175496972418787619281442302519629725716261212251300561153615832085954560 (Nat.mul 32 (Nat.land (Nat.xor c b) 15))) 4294967295)) k
noncomputable def crcLoop (l : Nat) : Nat → Nat → (Nat → R) → R := Nat.rec (motive := fun _ => Nat → Nat → (Nat → R) → R) (fun _ c k => k c) (fun _ ih n c k => forceN (Nat.mod n 256) fun b => forceN (Nat.div n 256) fun n' => crcHalf c b fun c => crcHalf c (Nat.shiftRight b 4) fun c => ih n' c k) l
noncomputable def nCrc (args : List V) (H : Heap) (k : K) : R := nth 0 args 0 fun x => vStr 0 x fun l n => crcLoop l n 4294967295 fun c => forceN (Nat.sub 4294967295 c) fun r => k (.int 6 r) H
end Go.Ev
