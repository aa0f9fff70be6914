/- crc.Sum, taken by its contract. -/
import Derived.Test.YtjjidjlaijpnoaaGreatDoorEvD
import Derived.Test.YtjjidjlaijpnoaaGreatDoorCrc
set_option linter.unusedVariables false
namespace Go.Proofs.YtjjidjlaijpnoaaGreatDoor
open Go.RowKit Go.Wd Go.Ev

theorem crcHalf_eq (c b : Nat) (k : Nat → R) : crcHalf c b k = k (Crc.nib c b) := by
  unfold crcHalf
  rw [forceN_eq]
  congr 1
  show (c >>> 4) ^^^ ((9937593612760466100516450665319420528403982636753068485404800763335476026940182181175496972418787619281442302519629725716261212251300561153615832085954560 >>> (32 * ((c ^^^ b) &&& 15))) &&& 4294967295) = c / 16 ^^^ Crc.tab.getD ((c ^^^ b) % 16) 0
  rw [Nat.shiftRight_eq_div_pow, show (15 : Nat) = 2 ^ 4 - 1 from rfl, Nat.and_two_pow_sub_one_eq_mod]
  have h : (c ^^^ b) % 2 ^ 4 < 16 := Nat.mod_lt _ (by decide)
  show _ = c / 2 ^ 4 ^^^ Crc.tab.getD ((c ^^^ b) % 2 ^ 4) 0
  generalize (c ^^^ b) % 2 ^ 4 = q at *
  congr 1
  match q, h with
  | 0, _ | 1, _ | 2, _ | 3, _ | 4, _ | 5, _ | 6, _ | 7, _ | 8, _ | 9, _ | 10, _ | 11, _ | 12, _ | 13, _ | 14, _ | 15, _ => rfl
  | q + 16, h => exact absurd h (by omega)

theorem nib_mod (n b : Nat) : Crc.nib n (b % 256) = Crc.nib n b := by
  unfold Crc.nib
  rw [Crc.xor_mod16, Crc.xor_mod16 n b, Nat.mod_mod_of_dvd _ (by decide)]
theorem crcLoop_eq : ∀ (l n c : Nat) (k : Nat → R), crcLoop l n c k = k (Crc.raw c (sbytes l n))
  | 0, n, c, k => rfl
  | l + 1, n, c, k => by
    show forceN (Nat.mod n 256) (fun b => forceN (Nat.div n 256) fun n' => crcHalf c b fun c => crcHalf c (Nat.shiftRight b 4) fun c => crcLoop l n' c k) = _
    rw [forceN_eq, forceN_eq, crcHalf_eq, crcHalf_eq, crcLoop_eq l]
    show k (Crc.raw (Crc.nib (Crc.nib c (n % 256)) ((n % 256) >>> 4)) (sbytes l (n / 256))) = k (Crc.raw c (UInt8.ofNat (n % 256) :: sbytes l (n / 256)))
    rw [Crc.raw_cons, toNat_byte, Nat.shiftRight_eq_div_pow]
    rfl

theorem natCrc_ok : NatOK Tryz.prog 93 nCrc1 := fun args H k h => by
  obtain ⟨l, n, rfl, hl, h3⟩ := nCrc1_ok h
  rw [crcLoop_eq, forceN_eq] at h3
  refine ⟨_, H, CallF.of_calls Tryz.func93 rfl rfl fun base w0 rho w cargs hp hv => ?_, h3⟩
  obtain ⟨rfl, hn⟩ := vrs_one_str hv
  have hlt := Crc.sum_lt (sbytes l n)
  refine ⟨.int .u32 (Crc.sum (sbytes l n) : Nat), ?_, sum_any ⟨(sbytes l n).toArray⟩ w ?_⟩
  · simp only [VR]
    exact ⟨by show Value.int .u32 _ = Value.int .u32 (toI .u32 _); rw [toI_nat rfl (by exact hlt)]; rfl, hlt, by decide⟩
  · show (sbytes l n).toArray.size ≤ _
    rw [List.size_toArray, sbytes_length]
    omega
end Go.Proofs.YtjjidjlaijpnoaaGreatDoor
