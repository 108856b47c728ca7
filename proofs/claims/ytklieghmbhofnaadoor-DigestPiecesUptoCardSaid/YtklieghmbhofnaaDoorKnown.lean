/-
  The digest of 'abc' and the check sum of '123456789', step by step; what known() answers.
-/
import Derived.Test.YtklieghmbhofnaaDoorD5
import Derived.Test.YtklieghmbhofnaaDoorHexD
import Derived.Test.YtklieghmbhofnaaDoorMac
namespace Go.Proofs.YtklieghmbhofnaaDoor
open Go Go.Ev Go.RowKit
set_option maxRecDepth 100000
def kb : List UInt8 := [97, 98, 99, 128, 0, 0, 0, 0, 0, 0, 0, 0, 0, 0, 0, 0, 0, 0, 0, 0, 0, 0, 0, 0, 0, 0, 0, 0, 0, 0, 0, 0, 0, 0, 0, 0, 0, 0, 0, 0, 0, 0, 0, 0, 0, 0, 0, 0, 0, 0, 0, 0, 0, 0, 0, 0, 0, 0, 0, 0, 0, 0, 0, 24]
def kwl : List (BitVec 32) := [0x61626380, 0x00000000, 0x00000000, 0x00000000, 0x00000000, 0x00000000, 0x00000000, 0x00000000, 0x00000000, 0x00000000, 0x00000000, 0x00000000, 0x00000000, 0x00000000, 0x00000000, 0x00000018, 0x61626380, 0x000f0000, 0x7da86405, 0x600003c6, 0x3e9d7b78, 0x0183fc00, 0x12dcbfdb, 0xe2e2c38e, 0xc8215c1a, 0xb73679a2, 0xe5bc3909, 0x32663c5b, 0x9d209d67, 0xec8726cb, 0x702138a4, 0xd3b7973b, 0x93f5997f, 0x3b68ba73, 0xaff4ffc1, 0xf10a5c62, 0x0a8b3996, 0x72af830a, 0x9409e33e, 0x24641522, 0x9f47bf94, 0xf0a64f5a, 0x3e246a79, 0x27333ba3, 0x0c4763f2, 0x840abf27, 0x7a290d5d, 0x065c43da, 0xfb3e89cb, 0xcc7617db, 0xb9e66c34, 0xa9993667, 0x84badedd, 0xc21462bc, 0x1487472c, 0xb20f7a99, 0xef57b9cd, 0xebe6b238, 0x9fe3095e, 0x78bc8d4b, 0xa43fcf15, 0x668b2ff8, 0xeeaba2cc, 0x12b1edeb]
def kst : List (List (BitVec 32)) := [[0x6a09e667, 0xbb67ae85, 0x3c6ef372, 0xa54ff53a, 0x510e527f, 0x9b05688c, 0x1f83d9ab, 0x5be0cd19],
  [0x5d6aebcd, 0x6a09e667, 0xbb67ae85, 0x3c6ef372, 0xfa2a4622, 0x510e527f, 0x9b05688c, 0x1f83d9ab],
  [0x5a6ad9ad, 0x5d6aebcd, 0x6a09e667, 0xbb67ae85, 0x78ce7989, 0xfa2a4622, 0x510e527f, 0x9b05688c],
  [0xc8c347a7, 0x5a6ad9ad, 0x5d6aebcd, 0x6a09e667, 0xf92939eb, 0x78ce7989, 0xfa2a4622, 0x510e527f],
  [0xd550f666, 0xc8c347a7, 0x5a6ad9ad, 0x5d6aebcd, 0x24e00850, 0xf92939eb, 0x78ce7989, 0xfa2a4622],
  [0x04409a6a, 0xd550f666, 0xc8c347a7, 0x5a6ad9ad, 0x43ada245, 0x24e00850, 0xf92939eb, 0x78ce7989],
  [0x2b4209f5, 0x04409a6a, 0xd550f666, 0xc8c347a7, 0x714260ad, 0x43ada245, 0x24e00850, 0xf92939eb],
  [0xe5030380, 0x2b4209f5, 0x04409a6a, 0xd550f666, 0x9b27a401, 0x714260ad, 0x43ada245, 0x24e00850],
  [0x85a07b5f, 0xe5030380, 0x2b4209f5, 0x04409a6a, 0x0c657a79, 0x9b27a401, 0x714260ad, 0x43ada245],
  [0x8e04ecb9, 0x85a07b5f, 0xe5030380, 0x2b4209f5, 0x32ca2d8c, 0x0c657a79, 0x9b27a401, 0x714260ad],
  [0x8c87346b, 0x8e04ecb9, 0x85a07b5f, 0xe5030380, 0x1cc92596, 0x32ca2d8c, 0x0c657a79, 0x9b27a401],
  [0x4798a3f4, 0x8c87346b, 0x8e04ecb9, 0x85a07b5f, 0x436b23e8, 0x1cc92596, 0x32ca2d8c, 0x0c657a79],
  [0xf71fc5a9, 0x4798a3f4, 0x8c87346b, 0x8e04ecb9, 0x816fd6e9, 0x436b23e8, 0x1cc92596, 0x32ca2d8c],
  [0x87912990, 0xf71fc5a9, 0x4798a3f4, 0x8c87346b, 0x1e578218, 0x816fd6e9, 0x436b23e8, 0x1cc92596],
  [0xd932eb16, 0x87912990, 0xf71fc5a9, 0x4798a3f4, 0x745a48de, 0x1e578218, 0x816fd6e9, 0x436b23e8],
  [0xc0645fde, 0xd932eb16, 0x87912990, 0xf71fc5a9, 0x0b92f20c, 0x745a48de, 0x1e578218, 0x816fd6e9],
  [0xb0fa238e, 0xc0645fde, 0xd932eb16, 0x87912990, 0x07590dcd, 0x0b92f20c, 0x745a48de, 0x1e578218],
  [0x21da9a9b, 0xb0fa238e, 0xc0645fde, 0xd932eb16, 0x8034229c, 0x07590dcd, 0x0b92f20c, 0x745a48de],
  [0xc2fbd9d1, 0x21da9a9b, 0xb0fa238e, 0xc0645fde, 0x846ee454, 0x8034229c, 0x07590dcd, 0x0b92f20c],
  [0xfe777bbf, 0xc2fbd9d1, 0x21da9a9b, 0xb0fa238e, 0xcc899961, 0x846ee454, 0x8034229c, 0x07590dcd],
  [0xe1f20c33, 0xfe777bbf, 0xc2fbd9d1, 0x21da9a9b, 0xb0638179, 0xcc899961, 0x846ee454, 0x8034229c],
  [0x9dc68b63, 0xe1f20c33, 0xfe777bbf, 0xc2fbd9d1, 0x8ada8930, 0xb0638179, 0xcc899961, 0x846ee454],
  [0xc2606d6d, 0x9dc68b63, 0xe1f20c33, 0xfe777bbf, 0xe1257970, 0x8ada8930, 0xb0638179, 0xcc899961],
  [0xa7a3623f, 0xc2606d6d, 0x9dc68b63, 0xe1f20c33, 0x49f5114a, 0xe1257970, 0x8ada8930, 0xb0638179],
  [0xc5d53d8d, 0xa7a3623f, 0xc2606d6d, 0x9dc68b63, 0xaa47c347, 0x49f5114a, 0xe1257970, 0x8ada8930],
  [0x1c2c2838, 0xc5d53d8d, 0xa7a3623f, 0xc2606d6d, 0x2823ef91, 0xaa47c347, 0x49f5114a, 0xe1257970],
  [0xcde8037d, 0x1c2c2838, 0xc5d53d8d, 0xa7a3623f, 0x14383d8e, 0x2823ef91, 0xaa47c347, 0x49f5114a],
  [0xb62ec4bc, 0xcde8037d, 0x1c2c2838, 0xc5d53d8d, 0xc74c6516, 0x14383d8e, 0x2823ef91, 0xaa47c347],
  [0x77d37528, 0xb62ec4bc, 0xcde8037d, 0x1c2c2838, 0xedffbff8, 0xc74c6516, 0x14383d8e, 0x2823ef91],
  [0x363482c9, 0x77d37528, 0xb62ec4bc, 0xcde8037d, 0x6112a3b7, 0xedffbff8, 0xc74c6516, 0x14383d8e],
  [0xa0060b30, 0x363482c9, 0x77d37528, 0xb62ec4bc, 0xade79437, 0x6112a3b7, 0xedffbff8, 0xc74c6516],
  [0xea992a22, 0xa0060b30, 0x363482c9, 0x77d37528, 0x0109ab3a, 0xade79437, 0x6112a3b7, 0xedffbff8],
  [0x73b33bf5, 0xea992a22, 0xa0060b30, 0x363482c9, 0xba591112, 0x0109ab3a, 0xade79437, 0x6112a3b7],
  [0x98e12507, 0x73b33bf5, 0xea992a22, 0xa0060b30, 0x9cd9f5f6, 0xba591112, 0x0109ab3a, 0xade79437],
  [0xfe604df5, 0x98e12507, 0x73b33bf5, 0xea992a22, 0x59249dd3, 0x9cd9f5f6, 0xba591112, 0x0109ab3a],
  [0xa9a7738c, 0xfe604df5, 0x98e12507, 0x73b33bf5, 0x085f3833, 0x59249dd3, 0x9cd9f5f6, 0xba591112],
  [0x65a0cfe4, 0xa9a7738c, 0xfe604df5, 0x98e12507, 0xf4b002d6, 0x085f3833, 0x59249dd3, 0x9cd9f5f6],
  [0x41a65cb1, 0x65a0cfe4, 0xa9a7738c, 0xfe604df5, 0x0772a26b, 0xf4b002d6, 0x085f3833, 0x59249dd3],
  [0x34df1604, 0x41a65cb1, 0x65a0cfe4, 0xa9a7738c, 0xa507a53d, 0x0772a26b, 0xf4b002d6, 0x085f3833],
  [0x6dc57a8a, 0x34df1604, 0x41a65cb1, 0x65a0cfe4, 0xf0781bc8, 0xa507a53d, 0x0772a26b, 0xf4b002d6],
  [0x79ea687a, 0x6dc57a8a, 0x34df1604, 0x41a65cb1, 0x1efbc0a0, 0xf0781bc8, 0xa507a53d, 0x0772a26b],
  [0xd6670766, 0x79ea687a, 0x6dc57a8a, 0x34df1604, 0x26352d63, 0x1efbc0a0, 0xf0781bc8, 0xa507a53d],
  [0xdf46652f, 0xd6670766, 0x79ea687a, 0x6dc57a8a, 0x838b2711, 0x26352d63, 0x1efbc0a0, 0xf0781bc8],
  [0x17aa0dfe, 0xdf46652f, 0xd6670766, 0x79ea687a, 0xdecd4715, 0x838b2711, 0x26352d63, 0x1efbc0a0],
  [0x9d4baf93, 0x17aa0dfe, 0xdf46652f, 0xd6670766, 0xfda24c2e, 0xdecd4715, 0x838b2711, 0x26352d63],
  [0x26628815, 0x9d4baf93, 0x17aa0dfe, 0xdf46652f, 0xa80f11f0, 0xfda24c2e, 0xdecd4715, 0x838b2711],
  [0x72ab4b91, 0x26628815, 0x9d4baf93, 0x17aa0dfe, 0xb7755da1, 0xa80f11f0, 0xfda24c2e, 0xdecd4715],
  [0xa14c14b0, 0x72ab4b91, 0x26628815, 0x9d4baf93, 0xd57b94a9, 0xb7755da1, 0xa80f11f0, 0xfda24c2e],
  [0x4172328d, 0xa14c14b0, 0x72ab4b91, 0x26628815, 0xfecf0bc6, 0xd57b94a9, 0xb7755da1, 0xa80f11f0],
  [0x05757ceb, 0x4172328d, 0xa14c14b0, 0x72ab4b91, 0xbd714038, 0xfecf0bc6, 0xd57b94a9, 0xb7755da1],
  [0xf11bfaa8, 0x05757ceb, 0x4172328d, 0xa14c14b0, 0x6e5c390c, 0xbd714038, 0xfecf0bc6, 0xd57b94a9],
  [0x7a0508a1, 0xf11bfaa8, 0x05757ceb, 0x4172328d, 0x52f1ccf7, 0x6e5c390c, 0xbd714038, 0xfecf0bc6],
  [0x886e7a22, 0x7a0508a1, 0xf11bfaa8, 0x05757ceb, 0x49231c1e, 0x52f1ccf7, 0x6e5c390c, 0xbd714038],
  [0x101fd28f, 0x886e7a22, 0x7a0508a1, 0xf11bfaa8, 0x529e7d00, 0x49231c1e, 0x52f1ccf7, 0x6e5c390c],
  [0xf5702fdb, 0x101fd28f, 0x886e7a22, 0x7a0508a1, 0x9f4787c3, 0x529e7d00, 0x49231c1e, 0x52f1ccf7],
  [0x3ec45cdb, 0xf5702fdb, 0x101fd28f, 0x886e7a22, 0xe50e1b4f, 0x9f4787c3, 0x529e7d00, 0x49231c1e],
  [0x38cc9913, 0x3ec45cdb, 0xf5702fdb, 0x101fd28f, 0x54cb266b, 0xe50e1b4f, 0x9f4787c3, 0x529e7d00],
  [0xfcd1887b, 0x38cc9913, 0x3ec45cdb, 0xf5702fdb, 0x9b5e906c, 0x54cb266b, 0xe50e1b4f, 0x9f4787c3],
  [0xc062d46f, 0xfcd1887b, 0x38cc9913, 0x3ec45cdb, 0x7e44008e, 0x9b5e906c, 0x54cb266b, 0xe50e1b4f],
  [0xffb70472, 0xc062d46f, 0xfcd1887b, 0x38cc9913, 0x6d83bfc6, 0x7e44008e, 0x9b5e906c, 0x54cb266b],
  [0xb6ae8fff, 0xffb70472, 0xc062d46f, 0xfcd1887b, 0xb21bad3d, 0x6d83bfc6, 0x7e44008e, 0x9b5e906c],
  [0xb85e2ce9, 0xb6ae8fff, 0xffb70472, 0xc062d46f, 0x961f4894, 0xb21bad3d, 0x6d83bfc6, 0x7e44008e],
  [0x04d24d6c, 0xb85e2ce9, 0xb6ae8fff, 0xffb70472, 0x948d25b6, 0x961f4894, 0xb21bad3d, 0x6d83bfc6],
  [0xd39a2165, 0x04d24d6c, 0xb85e2ce9, 0xb6ae8fff, 0xfb121210, 0x948d25b6, 0x961f4894, 0xb21bad3d],
  [0x506e3058, 0xd39a2165, 0x04d24d6c, 0xb85e2ce9, 0x5ef50f24, 0xfb121210, 0x948d25b6, 0x961f4894]]
def ksum : List UInt8 := [186, 120, 22, 191, 143, 1, 207, 234, 65, 65, 64, 222, 93, 174, 34, 35, 176, 3, 97, 163, 150, 23, 122, 156, 180, 16, 255, 97, 242, 0, 21, 173]
def khex : List UInt8 := [98, 97, 55, 56, 49, 54, 98, 102, 56, 102, 48, 49, 99, 102, 101, 97, 52, 49, 52, 49, 52, 48, 100, 101, 53, 100, 97, 101, 50, 50, 50, 51, 98, 48, 48, 51, 54, 49, 97, 51, 57, 54, 49, 55, 55, 97, 57, 99, 98, 52, 49, 48, 102, 102, 54, 49, 102, 50, 48, 48, 49, 53, 97, 100]
def kcrc : List (BitVec 32) := [0xffffffff, 0x6f0a661c, 0x8caa3b9f, 0xef84d04d, 0x09c50b11, 0xe72edcca, 0xbeca8e79, 0xedbd6815, 0x9f787f65, 0x1cf96d7c]
def nine : List UInt8 := [49, 50, 51, 52, 53, 54, 55, 56, 57]
def mkSt (l : List (BitVec 32)) : St := ⟨l.getD 0 0, l.getD 1 0, l.getD 2 0, l.getD 3 0, l.getD 4 0, l.getD 5 0, l.getD 6 0, l.getD 7 0⟩
theorem mk_l (s : St) : mkSt s.l = s := rfl
theorem kwl_ok : ((List.range 64).all fun t => word kb (kwl.take t) t == kwl.getD t 0) = true := by decide +kernel
theorem kst_ok : ((List.range 64).all fun t => (round (mkSt (kst.getD t [])) (rounds.getD t 0) (kwl.getD t 0)).l == kst.getD (t + 1) []) = true := by decide +kernel
theorem k_sched : ∀ t, t ≤ 64 → sched kb t = kwl.take t
  | 0, _ => rfl
  | t + 1, h => by
    rw [sched_succ, k_sched t (by omega)]
    have := List.all_eq_true.1 kwl_ok t (by simp; omega)
    rw [beq_iff_eq] at this
    rw [this, List.take_add_one, List.getD_eq_getElem?_getD]
    have hl : t < kwl.length := by show t < 64; omega
    rw [List.getElem?_eq_getElem hl]
    rfl
theorem k_rn : ∀ t, t ≤ 64 → rn firstSt kwl t = mkSt (kst.getD t [])
  | 0, _ => rfl
  | t + 1, h => by
    rw [rn_succ, k_rn t (by omega)]
    have := List.all_eq_true.1 kst_ok t (by simp; omega)
    rw [beq_iff_eq] at this
    rw [← this, mk_l]
theorem k_blk : (([97, 98, 99] ++ padOf 3 : List UInt8).drop (64 * 0)).take 64 = kb := by decide +kernel
theorem k_out : outOf (firstSt.add (mkSt (kst.getD 64 []))) = ksum := by decide +kernel
theorem k_sha : sha [97, 98, 99] = ksum := by
  have e : (([97, 98, 99] : List UInt8).length + (padOf ([97, 98, 99] : List UInt8).length).length) / 64 = 0 + 1 := by decide +kernel
  unfold sha
  rw [e, full_succ]
  show outOf (comp firstSt ((([97, 98, 99] ++ padOf 3 : List UInt8).drop (64 * 0)).take 64)) = ksum
  rw [k_blk]
  unfold comp
  rw [k_sched 64 (by omega), show kwl.take 64 = kwl from rfl, k_rn 64 (by omega)]
  exact k_out
theorem k_hex : hexs ksum 64 = khex := by decide +kernel
theorem kcrc_ok : ((List.range 9).all fun t => byteSt (kcrc.getD t 0) (nine.getD t 0) == kcrc.getD (t + 1) 0) = true := by decide +kernel
theorem k_crc : ∀ t, t ≤ 9 → crc (kcrc.getD 0 0) (nine.take t) = kcrc.getD t 0
  | 0, _ => rfl
  | t + 1, h => by
    have hl : t < nine.length := by show t < 9; omega
    have := List.all_eq_true.1 kcrc_ok t (by simp; omega)
    rw [beq_iff_eq] at this
    rw [crc_take hl, k_crc t (by omega), ← this]
    congr 1
    rw [List.getD_eq_getElem?_getD, List.getElem?_eq_getElem hl]
    rfl
theorem k_more : more 0 nine = 0xe3069283 := by
  unfold more
  have := k_crc 9 (by omega)
  rw [show nine.take 9 = nine from rfl] at this
  have e : (~~~ (0 : BitVec 32)) = kcrc.getD 0 0 := by decide +kernel
  rw [e, this]
  decide +kernel
theorem known_c (w : World) (htab : Tabs w) (ht : Tab w) (hg : 0 < w.heap.size) : CallsR Tryd.prog 29 #[] w fun v w' => v = .bool true ∧ Keep [] w w' := by
  apply witnesslaw1_known.sound
  unfold witnesslaw1_known.J witnesslaw1_known.C1
  refine ⟨.slice (some ⟨w.heap.size, 0, none⟩) 3 3, w.alloc (.cells (bvs [97, 98, 99]).toArray 5), by kernel_rfl, ?_⟩
  refine s_constB Tryd.underlying23 Tryd.underlying5 [97, 98, 99] rfl ?_
  intro w1 k1 ho
  refine s_lit1 eBs rfl ?_
  intro w2 k2 ho2
  have hss := SS.one (l := [97, 98, 99]) ho2 (ho.kp0 k2)
  have k12 := k1.tr k2
  refine (dof_c [[97, 98, 99]] _ w2 (small_one (by simp)) (by simp) hss (htab.kp k12 (by simp) (by simp))).mono ?_
  rintro r w3 ⟨rfl, k3⟩
  have k13 := k12.tr k3
  refine (hex_c _ (sha_len _) w3).mono ?_
  rintro r w4 ⟨rfl, k4⟩
  have k14 := k13.tr k4
  rw [show ([[97, 98, 99]] : List (List UInt8)).flatten = [97, 98, 99] from rfl, k_sha, k_hex]
  refine s_opt (v := .bool true) (by kernel_rfl) ?_
  refine s_gRun rfl ?_
  refine ⟨.slice (some ⟨w4.heap.size, 0, none⟩) 9 9, w4.alloc (.cells (bvs nine).toArray 5), by kernel_rfl, ?_⟩
  refine s_gRun rfl ?_
  refine s_constB Tryd.underlying23 Tryd.underlying5 nine rfl ?_
  intro w5 k5 hb5
  refine s_gRun rfl ?_
  refine s_lit1 eBs rfl ?_
  intro w6 k6 ho6
  have k16 := (k14.tr k5).tr k6
  refine s_gRun rfl ?_
  refine (check_c [nine] _ w6 (small_one (by decide)) (SS.one ho6 (hb5.kp0 k6)) (ht.keep (k16.block _ hg (by simp)))).mono ?_
  rintro r w7 ⟨rfl, rfl⟩
  rw [show [nine].flatten = nine from rfl, k_more]
  refine s_gRun rfl ?_
  refine s_opt (v := .bool true) (by kernel_rfl) ?_
  refine s_opt (v := .bool true) rfl ?_
  exact ⟨rfl, k16⟩
end Go.Proofs.YtklieghmbhofnaaDoor
