/- math/bits: how many bits are set (walks, words below 4096). -/
import Derived.Test.YtdkpcjabciocgaaBase
import Derived.Test.YtdkpcjabciocgaaBitOps
namespace Go.Proofs.Ytdkpcjabciocgaa
open Go.RowKit

set_option maxRecDepth 100000 in
set_option maxHeartbeats 400000 in
theorem ones64 (x : Nat) (w : World) (hx : x < 256) :
    Calls Try.prog 93 #[.int .u64 x] w fun e w' => e = .returned (.int .i64 (popc x)) ∧ w = w' := by
  go_enter Try.func93, Try.ntmps93
  go_wp2
  go_ret
  refine ⟨ret_int ?_, rfl⟩
  clear w
  revert x
  decide +kernel
set_option maxRecDepth 100000 in
set_option maxHeartbeats 400000 in
theorem ones_any (x : Nat) (w : World) (hx : x < 256) :
    Calls Try.prog 47 #[.int .u64 x] w fun e w' => e = .returned (.int .i64 (popc x)) ∧ w = w' := by
  go_enter Try.func47, Try.ntmps47
  go_wp2_with (go_at_call 93; refine (ones64 _ _ hx).mono ?_; rintro e w' ⟨rfl, rfl⟩)
  go_ret
  exact ⟨rfl, rfl⟩
set_option maxRecDepth 100000 in
set_option maxHeartbeats 400000 in
theorem ones32 (x : Nat) (w : World) (hx : x < 4096) :
    Calls Try.prog 20 #[.int .u32 x] w fun e w' => e = .returned (.int .i64 (popc x)) ∧ ∃ n, w.drewN n = w' := by
  have e1 : (x : Int) / 16777216 = 0 := by omega
  have e2 : (x : Int) / 65536 = 0 := by omega
  have e3 : bits .and .u32 0 255 = 0 := by decide
  have e4 : bits .and .u32 ((x : Int) / 256) 255 = (x : Int) / 256 := by
    have h : ∀ y : Nat, y < 16 → bits .and .u32 (y : Int) 255 = (y : Int) := by decide +kernel
    rw [show (x : Int) / 256 = ((x / 256 : Nat) : Int) from by omega]; exact h (x / 256) (by omega)
  have e5 : bits .and .u32 (x : Int) 255 = (x : Int) % 256 := by
    clear e1 e2 e3 e4
    revert x; decide +kernel
  have b1 : 0 ≤ (x : Int) / 256 := by omega
  have b2 : (x : Int) / 256 < 256 := by omega
  have b3 : 0 ≤ (x : Int) % 256 := by omega
  have b4 : (x : Int) % 256 < 256 := by omega
  go_enter Try.func20, Try.ntmps20
  go_wp2
  generalize hT : (ByteArray.mk _) = T
  have hs : T.size = 256 := by rw [← hT]; rfl
  have h256 : ∀ i, i < 256 → (T.data.getD i 0).toNat = popc i := by rw [← hT]; decide +kernel
  replace h256 := Lib.hid h256
  clear hT
  refine wp_region_quiet_lit (by kernel_rfl) (by kernel_rfl) ?_
  iterate 19 (quiet_step (fail))
  refine wpQuiet_nil ?_
  intro _ hw'
  obtain ⟨nq, hw''⟩ := hw'
  subst hw''
  go_wp2
  go_ret
  refine ⟨ret_int ?_, nq, rfl⟩
  have key : ∀ (i : Nat) (h : i < T.size), ((T[i]'h).toNat : Int) = (popc i : Int) := by
    intro i h
    rw [← h256.out i (by omega), ByteArray.getElem_eq_getElem_data]
    simp only [Array.getD]
    rw [dif_pos (show i < T.data.size from h)]
    rfl
  rw [key, key, key]
  have q1 := popc_le8 (x / 256) (by omega)
  have q2 := popc_le8 (x % 256) (by omega)
  have q3 := popc_split x (by omega)
  have q4 : popc 0 = 0 := by decide
  rw [show ((x : Int) / 256).toNat = x / 256 from by omega, show ((x : Int) % 256).toNat = x % 256 from by omega, q3, q4]
  rw [IntWalk.u8_in (((0 : Nat) : Int) + ((0 : Nat) : Int)) (by omega), IntWalk.u8_in (((0 : Nat) : Int) + ((0 : Nat) : Int) + (popc (x / 256) : Int)) (by omega), IntWalk.u8_in _ (by omega), IntWalk.i64_in _ (by omega)]
  omega

end Go.Proofs.Ytdkpcjabciocgaa
