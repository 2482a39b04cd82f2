import Derived.Test.YtlmbhkmaflhagaaEM1
namespace Go.Proofs.Ytlmbhkmaflhagaa
theorem mT_sp_l1In (x1 : Int) (x2 : Int) (x3 : Int) : Le (Tm_sp_l1In x1 x2 x3).ev (T_sp_l1In x1 x2 x3).ev := by
  unfold Tm_sp_l1In T_sp_l1In
  try dsimp only
  repeat' first
    | with_reducible exact Le.refl _
    | with_reducible exact Le.f _
    | with_reducible refine Le.t ?_ ?_
    | with_reducible refine Le.g ?_
    | with_reducible refine Le.s (fun _ => ?_) (fun _ => ?_)
    | with_reducible refine Le.c ?_ (fun _ => ?_)
    | with_reducible assumption
    | with_reducible refine Le.bnd ?_
    | with_reducible intro _
theorem mF_sp_l1In (x4 : Int) (x5 : Int) (x6 : Int) : Le (Fm_sp_l1In x4 x5 x6) (F_sp_l1In x4 x5 x6) := by
  unfold Fm_sp_l1In F_sp_l1In
  apply mT_sp_l1In
  all_goals assumption
theorem mS_sp_l2Bits_0 (x7 : (Int) × (Int)) (x8 : (Int) × (List (Int))) : Le (Sm_sp_l2Bits_0 x7 x8).ev (S_sp_l2Bits_0 x7 x8).ev := by
  unfold Sm_sp_l2Bits_0 S_sp_l2Bits_0
  try dsimp only
  repeat' first
    | with_reducible exact Le.refl _
    | with_reducible exact Le.f _
    | with_reducible refine Le.t ?_ ?_
    | with_reducible refine Le.g ?_
    | with_reducible refine Le.s (fun _ => ?_) (fun _ => ?_)
    | with_reducible refine Le.c ?_ (fun _ => ?_)
    | with_reducible assumption
    | with_reducible refine Le.bnd ?_
    | with_reducible intro _
theorem mL_sp_l2Bits_0 (x9 : (Int) × (Int)) (x10 : (Int) × (List (Int))) : Le (Lm_sp_l2Bits_0 x9 x10) (L_sp_l2Bits_0 x9 x10) := by
  unfold Lm_sp_l2Bits_0 L_sp_l2Bits_0
  refine Le.it (fun v => ?_) _ _
  apply mS_sp_l2Bits_0
  all_goals assumption
theorem mT_sp_l2Bits (x11 : Int) (x12 : Int) : Le (Tm_sp_l2Bits x11 x12).ev (T_sp_l2Bits x11 x12).ev := by
  unfold Tm_sp_l2Bits T_sp_l2Bits
  try dsimp only
  repeat' first
    | with_reducible exact Le.refl _
    | with_reducible exact Le.f _
    | with_reducible refine Le.t ?_ ?_
    | with_reducible refine Le.g ?_
    | with_reducible refine Le.s (fun _ => ?_) (fun _ => ?_)
    | with_reducible refine Le.c ?_ (fun _ => ?_)
    | with_reducible assumption
    | with_reducible apply mL_sp_l2Bits_0
    | with_reducible refine Le.bnd ?_
    | with_reducible intro _
theorem mF_sp_l2Bits (x13 : Int) (x14 : Int) : Le (Fm_sp_l2Bits x13 x14) (F_sp_l2Bits x13 x14) := by
  unfold Fm_sp_l2Bits F_sp_l2Bits
  apply mT_sp_l2Bits
  all_goals assumption
theorem mS_sp_l2Before_0 (x15 : (List (Int)) × (List (Int))) (x16 : Int) : Le (Sm_sp_l2Before_0 x15 x16).ev (S_sp_l2Before_0 x15 x16).ev := by
  unfold Sm_sp_l2Before_0 S_sp_l2Before_0
  try dsimp only
  repeat' first
    | with_reducible exact Le.refl _
    | with_reducible exact Le.f _
    | with_reducible refine Le.t ?_ ?_
    | with_reducible refine Le.g ?_
    | with_reducible refine Le.s (fun _ => ?_) (fun _ => ?_)
    | with_reducible refine Le.c ?_ (fun _ => ?_)
    | with_reducible assumption
    | with_reducible refine Le.bnd ?_
    | with_reducible intro _
theorem mL_sp_l2Before_0 (x17 : (List (Int)) × (List (Int))) (x18 : Int) : Le (Lm_sp_l2Before_0 x17 x18) (L_sp_l2Before_0 x17 x18) := by
  unfold Lm_sp_l2Before_0 L_sp_l2Before_0
  refine Le.it (fun v => ?_) _ _
  apply mS_sp_l2Before_0
  all_goals assumption
theorem mT_sp_l2Before (x19 : List (Int)) (x20 : List (Int)) : Le (Tm_sp_l2Before x19 x20).ev (T_sp_l2Before x19 x20).ev := by
  unfold Tm_sp_l2Before T_sp_l2Before
  try dsimp only
  repeat' first
    | with_reducible exact Le.refl _
    | with_reducible exact Le.f _
    | with_reducible refine Le.t ?_ ?_
    | with_reducible refine Le.g ?_
    | with_reducible refine Le.s (fun _ => ?_) (fun _ => ?_)
    | with_reducible refine Le.c ?_ (fun _ => ?_)
    | with_reducible assumption
    | with_reducible apply mL_sp_l2Before_0
    | with_reducible refine Le.bnd ?_
    | with_reducible intro _
theorem mF_sp_l2Before (x21 : List (Int)) (x22 : List (Int)) : Le (Fm_sp_l2Before x21 x22) (F_sp_l2Before x21 x22) := by
  unfold Fm_sp_l2Before F_sp_l2Before
  apply mT_sp_l2Before
  all_goals assumption
theorem mS_sp_l2Sets_2 (x23 : (Int) × ((List (List (Int))) × ((Int) × (List (Int))))) (x24 : Int) : Le (Sm_sp_l2Sets_2 x23 x24).ev (S_sp_l2Sets_2 x23 x24).ev := by
  unfold Sm_sp_l2Sets_2 S_sp_l2Sets_2
  try dsimp only
  repeat' first
    | with_reducible exact Le.refl _
    | with_reducible exact Le.f _
    | with_reducible refine Le.t ?_ ?_
    | with_reducible refine Le.g ?_
    | with_reducible refine Le.s (fun _ => ?_) (fun _ => ?_)
    | with_reducible refine Le.c ?_ (fun _ => ?_)
    | with_reducible assumption
    | with_reducible apply mF_sp_l2Before
    | with_reducible refine Le.bnd ?_
    | with_reducible intro _
theorem mL_sp_l2Sets_2 (x25 : (Int) × ((List (List (Int))) × ((Int) × (List (Int))))) (x26 : Int) : Le (Lm_sp_l2Sets_2 x25 x26) (L_sp_l2Sets_2 x25 x26) := by
  unfold Lm_sp_l2Sets_2 L_sp_l2Sets_2
  refine Le.it (fun v => ?_) _ _
  apply mS_sp_l2Sets_2
  all_goals assumption
theorem mS_sp_l2Sets_0 (x27 : Int) (x28 : (List (List (Int))) × (Int)) : Le (Sm_sp_l2Sets_0 x27 x28).ev (S_sp_l2Sets_0 x27 x28).ev := by
  unfold Sm_sp_l2Sets_0 S_sp_l2Sets_0
  try dsimp only
  repeat' first
    | with_reducible exact Le.refl _
    | with_reducible exact Le.f _
    | with_reducible refine Le.t ?_ ?_
    | with_reducible refine Le.g ?_
    | with_reducible refine Le.s (fun _ => ?_) (fun _ => ?_)
    | with_reducible refine Le.c ?_ (fun _ => ?_)
    | with_reducible assumption
    | with_reducible apply mF_sp_l2Bits
    | with_reducible apply mL_sp_l2Sets_2
    | with_reducible refine Le.bnd ?_
    | with_reducible intro _
theorem mL_sp_l2Sets_0 (x29 : Int) (x30 : (List (List (Int))) × (Int)) : Le (Lm_sp_l2Sets_0 x29 x30) (L_sp_l2Sets_0 x29 x30) := by
  unfold Lm_sp_l2Sets_0 L_sp_l2Sets_0
  refine Le.it (fun v => ?_) _ _
  apply mS_sp_l2Sets_0
  all_goals assumption
theorem mT_sp_l2Sets (x31 : Int) : Le (Tm_sp_l2Sets x31).ev (T_sp_l2Sets x31).ev := by
  unfold Tm_sp_l2Sets T_sp_l2Sets
  try dsimp only
  repeat' first
    | with_reducible exact Le.refl _
    | with_reducible exact Le.f _
    | with_reducible refine Le.t ?_ ?_
    | with_reducible refine Le.g ?_
    | with_reducible refine Le.s (fun _ => ?_) (fun _ => ?_)
    | with_reducible refine Le.c ?_ (fun _ => ?_)
    | with_reducible assumption
    | with_reducible apply mL_sp_l2Sets_0
    | with_reducible refine Le.bnd ?_
    | with_reducible intro _
theorem mF_sp_l2Sets (x32 : Int) : Le (Fm_sp_l2Sets x32) (F_sp_l2Sets x32) := by
  unfold Fm_sp_l2Sets F_sp_l2Sets
  apply mT_sp_l2Sets
  all_goals assumption
theorem mS_sp_l1Rising_0 (x33 : (List (Int)) × ((Int) × (Int))) (x34 : Int) : Le (Sm_sp_l1Rising_0 x33 x34).ev (S_sp_l1Rising_0 x33 x34).ev := by
  unfold Sm_sp_l1Rising_0 S_sp_l1Rising_0
  try dsimp only
  repeat' first
    | with_reducible exact Le.refl _
    | with_reducible exact Le.f _
    | with_reducible refine Le.t ?_ ?_
    | with_reducible refine Le.g ?_
    | with_reducible refine Le.s (fun _ => ?_) (fun _ => ?_)
    | with_reducible refine Le.c ?_ (fun _ => ?_)
    | with_reducible assumption
    | with_reducible apply mF_sp_l1In
    | with_reducible refine Le.bnd ?_
    | with_reducible intro _
theorem mL_sp_l1Rising_0 (x35 : (List (Int)) × ((Int) × (Int))) (x36 : Int) : Le (Lm_sp_l1Rising_0 x35 x36) (L_sp_l1Rising_0 x35 x36) := by
  unfold Lm_sp_l1Rising_0 L_sp_l1Rising_0
  refine Le.it (fun v => ?_) _ _
  apply mS_sp_l1Rising_0
  all_goals assumption
theorem mT_sp_l1Rising (x37 : List (Int)) (x38 : Int) (x39 : Int) : Le (Tm_sp_l1Rising x37 x38 x39).ev (T_sp_l1Rising x37 x38 x39).ev := by
  unfold Tm_sp_l1Rising T_sp_l1Rising
  try dsimp only
  repeat' first
    | with_reducible exact Le.refl _
    | with_reducible exact Le.f _
    | with_reducible refine Le.t ?_ ?_
    | with_reducible refine Le.g ?_
    | with_reducible refine Le.s (fun _ => ?_) (fun _ => ?_)
    | with_reducible refine Le.c ?_ (fun _ => ?_)
    | with_reducible assumption
    | with_reducible apply mL_sp_l1Rising_0
    | with_reducible refine Le.bnd ?_
    | with_reducible intro _
theorem mF_sp_l1Rising (x40 : List (Int)) (x41 : Int) (x42 : Int) : Le (Fm_sp_l1Rising x40 x41 x42) (F_sp_l1Rising x40 x41 x42) := by
  unfold Fm_sp_l1Rising F_sp_l1Rising
  apply mT_sp_l1Rising
  all_goals assumption
theorem mS_sp_l1Has_0 (x43 : (List (Int)) × (Int)) (x44 : Int) : Le (Sm_sp_l1Has_0 x43 x44).ev (S_sp_l1Has_0 x43 x44).ev := by
  unfold Sm_sp_l1Has_0 S_sp_l1Has_0
  try dsimp only
  repeat' first
    | with_reducible exact Le.refl _
    | with_reducible exact Le.f _
    | with_reducible refine Le.t ?_ ?_
    | with_reducible refine Le.g ?_
    | with_reducible refine Le.s (fun _ => ?_) (fun _ => ?_)
    | with_reducible refine Le.c ?_ (fun _ => ?_)
    | with_reducible assumption
    | with_reducible refine Le.bnd ?_
    | with_reducible intro _
theorem mL_sp_l1Has_0 (x45 : (List (Int)) × (Int)) (x46 : Int) : Le (Lm_sp_l1Has_0 x45 x46) (L_sp_l1Has_0 x45 x46) := by
  unfold Lm_sp_l1Has_0 L_sp_l1Has_0
  refine Le.it (fun v => ?_) _ _
  apply mS_sp_l1Has_0
  all_goals assumption
theorem mT_sp_l1Has (x47 : List (Int)) (x48 : Int) : Le (Tm_sp_l1Has x47 x48).ev (T_sp_l1Has x47 x48).ev := by
  unfold Tm_sp_l1Has T_sp_l1Has
  try dsimp only
  repeat' first
    | with_reducible exact Le.refl _
    | with_reducible exact Le.f _
    | with_reducible refine Le.t ?_ ?_
    | with_reducible refine Le.g ?_
    | with_reducible refine Le.s (fun _ => ?_) (fun _ => ?_)
    | with_reducible refine Le.c ?_ (fun _ => ?_)
    | with_reducible assumption
    | with_reducible apply mL_sp_l1Has_0
    | with_reducible refine Le.bnd ?_
    | with_reducible intro _
theorem mF_sp_l1Has (x49 : List (Int)) (x50 : Int) : Le (Fm_sp_l1Has x49 x50) (F_sp_l1Has x49 x50) := by
  unfold Fm_sp_l1Has F_sp_l1Has
  apply mT_sp_l1Has
  all_goals assumption
theorem mT_im_between (x51 : Int) (x52 : Int) (x53 : Int) : Le (Tm_im_between x51 x52 x53).ev (T_im_between x51 x52 x53).ev := by
  unfold Tm_im_between T_im_between
  try dsimp only
  repeat' first
    | with_reducible exact Le.refl _
    | with_reducible exact Le.f _
    | with_reducible refine Le.t ?_ ?_
    | with_reducible refine Le.g ?_
    | with_reducible refine Le.s (fun _ => ?_) (fun _ => ?_)
    | with_reducible refine Le.c ?_ (fun _ => ?_)
    | with_reducible assumption
    | with_reducible refine Le.bnd ?_
    | with_reducible intro _
theorem mF_im_between (x54 : Int) (x55 : Int) (x56 : Int) : Le (Fm_im_between x54 x55 x56) (F_im_between x54 x55 x56) := by
  unfold Fm_im_between F_im_between
  apply mT_im_between
  all_goals assumption
theorem mT_im_bag_has (x57 : Int) (x58 : Int) : Le (Tm_im_bag_has x57 x58).ev (T_im_bag_has x57 x58).ev := by
  unfold Tm_im_bag_has T_im_bag_has
  try dsimp only
  repeat' first
    | with_reducible exact Le.refl _
    | with_reducible exact Le.f _
    | with_reducible refine Le.t ?_ ?_
    | with_reducible refine Le.g ?_
    | with_reducible refine Le.s (fun _ => ?_) (fun _ => ?_)
    | with_reducible refine Le.c ?_ (fun _ => ?_)
    | with_reducible assumption
    | with_reducible refine Le.bnd ?_
    | with_reducible intro _
theorem mF_im_bag_has (x59 : Int) (x60 : Int) : Le (Fm_im_bag_has x59 x60) (F_im_bag_has x59 x60) := by
  unfold Fm_im_bag_has F_im_bag_has
  apply mT_im_bag_has
  all_goals assumption
theorem mS_im_bag_list_0 (x61 : Int) (x62 : (Int) × (List (Int))) : Le (Sm_im_bag_list_0 x61 x62).ev (S_im_bag_list_0 x61 x62).ev := by
  unfold Sm_im_bag_list_0 S_im_bag_list_0
  try dsimp only
  repeat' first
    | with_reducible exact Le.refl _
    | with_reducible exact Le.f _
    | with_reducible refine Le.t ?_ ?_
    | with_reducible refine Le.g ?_
    | with_reducible refine Le.s (fun _ => ?_) (fun _ => ?_)
    | with_reducible refine Le.c ?_ (fun _ => ?_)
    | with_reducible assumption
    | with_reducible apply mF_im_bag_has
    | with_reducible refine Le.bnd ?_
    | with_reducible intro _
theorem mL_im_bag_list_0 (x63 : Int) (x64 : (Int) × (List (Int))) : Le (Lm_im_bag_list_0 x63 x64) (L_im_bag_list_0 x63 x64) := by
  unfold Lm_im_bag_list_0 L_im_bag_list_0
  refine Le.it (fun v => ?_) _ _
  apply mS_im_bag_list_0
  all_goals assumption
theorem mT_im_bag_list (x65 : Int) : Le (Tm_im_bag_list x65).ev (T_im_bag_list x65).ev := by
  unfold Tm_im_bag_list T_im_bag_list
  try dsimp only
  repeat' first
    | with_reducible exact Le.refl _
    | with_reducible exact Le.f _
    | with_reducible refine Le.t ?_ ?_
    | with_reducible refine Le.g ?_
    | with_reducible refine Le.s (fun _ => ?_) (fun _ => ?_)
    | with_reducible refine Le.c ?_ (fun _ => ?_)
    | with_reducible assumption
    | with_reducible apply mL_im_bag_list_0
    | with_reducible refine Le.bnd ?_
    | with_reducible intro _
theorem mF_im_bag_list (x66 : Int) : Le (Fm_im_bag_list x66) (F_im_bag_list x66) := by
  unfold Fm_im_bag_list F_im_bag_list
  apply mT_im_bag_list
  all_goals assumption
theorem mT_math_bits_Len64 (x67 : Int) : Le (Tm_math_bits_Len64 x67).ev (T_math_bits_Len64 x67).ev := by
  unfold Tm_math_bits_Len64 T_math_bits_Len64
  try dsimp only
  repeat' first
    | with_reducible exact Le.refl _
    | with_reducible exact Le.f _
    | with_reducible refine Le.t ?_ ?_
    | with_reducible refine Le.g ?_
    | with_reducible refine Le.s (fun _ => ?_) (fun _ => ?_)
    | with_reducible refine Le.c ?_ (fun _ => ?_)
    | with_reducible assumption
    | with_reducible refine Le.bnd ?_
    | with_reducible intro _
theorem mF_math_bits_Len64 (x68 : Int) : Le (Fm_math_bits_Len64 x68) (F_math_bits_Len64 x68) := by
  unfold Fm_math_bits_Len64 F_math_bits_Len64
  apply mT_math_bits_Len64
  all_goals assumption
theorem mT_math_bits_Len (x69 : Int) : Le (Tm_math_bits_Len x69).ev (T_math_bits_Len x69).ev := by
  unfold Tm_math_bits_Len T_math_bits_Len
  try dsimp only
  repeat' first
    | with_reducible exact Le.refl _
    | with_reducible exact Le.f _
    | with_reducible refine Le.t ?_ ?_
    | with_reducible refine Le.g ?_
    | with_reducible refine Le.s (fun _ => ?_) (fun _ => ?_)
    | with_reducible refine Le.c ?_ (fun _ => ?_)
    | with_reducible assumption
    | with_reducible apply mF_math_bits_Len64
    | with_reducible refine Le.bnd ?_
    | with_reducible intro _
theorem mF_math_bits_Len (x70 : Int) : Le (Fm_math_bits_Len x70) (F_math_bits_Len x70) := by
  unfold Fm_math_bits_Len F_math_bits_Len
  apply mT_math_bits_Len
  all_goals assumption
theorem mS_slices_insertionSortCmpFunc_Sint_2 (c71 : (Int)) (c72 : (Int)) (q73 q74 : ((HL [(.slice (.int .i64)), (.slice (.int .i64))] → Option (Int)))) (hq75 : ∀ h, Le (q73 h) (q74 h)) (c76 : Int) (x77 : (Int) × (List (List (Int)))) : Le (Sm_slices_insertionSortCmpFunc_Sint_2 (c71, (c72, (q73, c76))) x77).ev (S_slices_insertionSortCmpFunc_Sint_2 (c71, (c72, (q74, c76))) x77).ev := by
  unfold Sm_slices_insertionSortCmpFunc_Sint_2 S_slices_insertionSortCmpFunc_Sint_2
  try dsimp only
  repeat' first
    | with_reducible exact Le.refl _
    | with_reducible exact Le.f _
    | with_reducible refine Le.t ?_ ?_
    | with_reducible refine Le.g ?_
    | with_reducible refine Le.s (fun _ => ?_) (fun _ => ?_)
    | with_reducible refine Le.c ?_ (fun _ => ?_)
    | with_reducible assumption
    | with_reducible apply hq75
    | with_reducible refine Le.bnd ?_
    | with_reducible intro _
theorem mL_slices_insertionSortCmpFunc_Sint_2 (c78 : (Int)) (c79 : (Int)) (q80 q81 : ((HL [(.slice (.int .i64)), (.slice (.int .i64))] → Option (Int)))) (hq82 : ∀ h, Le (q80 h) (q81 h)) (c83 : Int) (x84 : (Int) × (List (List (Int)))) : Le (Lm_slices_insertionSortCmpFunc_Sint_2 (c78, (c79, (q80, c83))) x84) (L_slices_insertionSortCmpFunc_Sint_2 (c78, (c79, (q81, c83))) x84) := by
  unfold Lm_slices_insertionSortCmpFunc_Sint_2 L_slices_insertionSortCmpFunc_Sint_2
  refine Le.it (fun v => ?_) _ _
  apply mS_slices_insertionSortCmpFunc_Sint_2
  all_goals assumption
theorem mS_slices_insertionSortCmpFunc_Sint_0 (c85 : (Int)) (c86 : (Int)) (q87 q88 : HL [(.slice (.int .i64)), (.slice (.int .i64))] → Option (Int)) (hq89 : ∀ h, Le (q87 h) (q88 h)) (x90 : (Int) × (List (List (Int)))) : Le (Sm_slices_insertionSortCmpFunc_Sint_0 (c85, (c86, q87)) x90).ev (S_slices_insertionSortCmpFunc_Sint_0 (c85, (c86, q88)) x90).ev := by
  unfold Sm_slices_insertionSortCmpFunc_Sint_0 S_slices_insertionSortCmpFunc_Sint_0
  try dsimp only
  repeat' first
    | with_reducible exact Le.refl _
    | with_reducible exact Le.f _
    | with_reducible refine Le.t ?_ ?_
    | with_reducible refine Le.g ?_
    | with_reducible refine Le.s (fun _ => ?_) (fun _ => ?_)
    | with_reducible refine Le.c ?_ (fun _ => ?_)
    | with_reducible assumption
    | with_reducible apply hq89
    | with_reducible apply mL_slices_insertionSortCmpFunc_Sint_2
    | with_reducible refine Le.bnd ?_
    | with_reducible intro _
theorem mL_slices_insertionSortCmpFunc_Sint_0 (c91 : (Int)) (c92 : (Int)) (q93 q94 : HL [(.slice (.int .i64)), (.slice (.int .i64))] → Option (Int)) (hq95 : ∀ h, Le (q93 h) (q94 h)) (x96 : (Int) × (List (List (Int)))) : Le (Lm_slices_insertionSortCmpFunc_Sint_0 (c91, (c92, q93)) x96) (L_slices_insertionSortCmpFunc_Sint_0 (c91, (c92, q94)) x96) := by
  unfold Lm_slices_insertionSortCmpFunc_Sint_0 L_slices_insertionSortCmpFunc_Sint_0
  refine Le.it (fun v => ?_) _ _
  apply mS_slices_insertionSortCmpFunc_Sint_0
  all_goals assumption
theorem mT_slices_insertionSortCmpFunc_Sint (x97 : Int) (x98 : Int) (q99 q100 : (HL [(.slice (.int .i64)), (.slice (.int .i64))] → Option (Int))) (hq101 : ∀ h, Le (q99 h) (q100 h)) (x102 : List (List (Int))) : Le (Tm_slices_insertionSortCmpFunc_Sint x97 x98 q99 x102).ev (T_slices_insertionSortCmpFunc_Sint x97 x98 q100 x102).ev := by
  unfold Tm_slices_insertionSortCmpFunc_Sint T_slices_insertionSortCmpFunc_Sint
  try dsimp only
  repeat' first
    | with_reducible exact Le.refl _
    | with_reducible exact Le.f _
    | with_reducible refine Le.t ?_ ?_
    | with_reducible refine Le.g ?_
    | with_reducible refine Le.s (fun _ => ?_) (fun _ => ?_)
    | with_reducible refine Le.c ?_ (fun _ => ?_)
    | with_reducible assumption
    | with_reducible apply hq101
    | with_reducible apply mL_slices_insertionSortCmpFunc_Sint_0
    | with_reducible refine Le.bnd ?_
    | with_reducible intro _
theorem mF_slices_insertionSortCmpFunc_Sint (x103 : Int) (x104 : Int) (q105 q106 : (HL [(.slice (.int .i64)), (.slice (.int .i64))] → Option (Int))) (hq107 : ∀ h, Le (q105 h) (q106 h)) (x108 : List (List (Int))) : Le (Fm_slices_insertionSortCmpFunc_Sint x103 x104 q105 x108) (F_slices_insertionSortCmpFunc_Sint x103 x104 q106 x108) := by
  unfold Fm_slices_insertionSortCmpFunc_Sint F_slices_insertionSortCmpFunc_Sint
  apply mT_slices_insertionSortCmpFunc_Sint
  all_goals assumption
theorem mT_slices_order2CmpFunc_Sint (x109 : List (List (Int))) (x110 : Int) (x111 : Int) (q112 q113 : (HL [(.slice (.int .i64)), (.slice (.int .i64))] → Option (Int))) (hq114 : ∀ h, Le (q112 h) (q113 h)) (x115 : Int) : Le (Tm_slices_order2CmpFunc_Sint x109 x110 x111 q112 x115).ev (T_slices_order2CmpFunc_Sint x109 x110 x111 q113 x115).ev := by
  unfold Tm_slices_order2CmpFunc_Sint T_slices_order2CmpFunc_Sint
  try dsimp only
  repeat' first
    | with_reducible exact Le.refl _
    | with_reducible exact Le.f _
    | with_reducible refine Le.t ?_ ?_
    | with_reducible refine Le.g ?_
    | with_reducible refine Le.s (fun _ => ?_) (fun _ => ?_)
    | with_reducible refine Le.c ?_ (fun _ => ?_)
    | with_reducible assumption
    | with_reducible apply hq114
    | with_reducible refine Le.bnd ?_
    | with_reducible intro _
theorem mF_slices_order2CmpFunc_Sint (x116 : List (List (Int))) (x117 : Int) (x118 : Int) (q119 q120 : (HL [(.slice (.int .i64)), (.slice (.int .i64))] → Option (Int))) (hq121 : ∀ h, Le (q119 h) (q120 h)) (x122 : Int) : Le (Fm_slices_order2CmpFunc_Sint x116 x117 x118 q119 x122) (F_slices_order2CmpFunc_Sint x116 x117 x118 q120 x122) := by
  unfold Fm_slices_order2CmpFunc_Sint F_slices_order2CmpFunc_Sint
  apply mT_slices_order2CmpFunc_Sint
  all_goals assumption
theorem mT_slices_medianCmpFunc_Sint (x123 : List (List (Int))) (x124 : Int) (x125 : Int) (x126 : Int) (q127 q128 : (HL [(.slice (.int .i64)), (.slice (.int .i64))] → Option (Int))) (hq129 : ∀ h, Le (q127 h) (q128 h)) (x130 : Int) : Le (Tm_slices_medianCmpFunc_Sint x123 x124 x125 x126 q127 x130).ev (T_slices_medianCmpFunc_Sint x123 x124 x125 x126 q128 x130).ev := by
  unfold Tm_slices_medianCmpFunc_Sint T_slices_medianCmpFunc_Sint
  try dsimp only
  repeat' first
    | with_reducible exact Le.refl _
    | with_reducible exact Le.f _
    | with_reducible refine Le.t ?_ ?_
    | with_reducible refine Le.g ?_
    | with_reducible refine Le.s (fun _ => ?_) (fun _ => ?_)
    | with_reducible refine Le.c ?_ (fun _ => ?_)
    | with_reducible assumption
    | with_reducible apply hq129
    | with_reducible apply mF_slices_order2CmpFunc_Sint
    | with_reducible refine Le.bnd ?_
    | with_reducible intro _
theorem mF_slices_medianCmpFunc_Sint (x131 : List (List (Int))) (x132 : Int) (x133 : Int) (x134 : Int) (q135 q136 : (HL [(.slice (.int .i64)), (.slice (.int .i64))] → Option (Int))) (hq137 : ∀ h, Le (q135 h) (q136 h)) (x138 : Int) : Le (Fm_slices_medianCmpFunc_Sint x131 x132 x133 x134 q135 x138) (F_slices_medianCmpFunc_Sint x131 x132 x133 x134 q136 x138) := by
  unfold Fm_slices_medianCmpFunc_Sint F_slices_medianCmpFunc_Sint
  apply mT_slices_medianCmpFunc_Sint
  all_goals assumption
theorem mT_slices_medianAdjacentCmpFunc_Sint (x139 : List (List (Int))) (x140 : Int) (q141 q142 : (HL [(.slice (.int .i64)), (.slice (.int .i64))] → Option (Int))) (hq143 : ∀ h, Le (q141 h) (q142 h)) (x144 : Int) : Le (Tm_slices_medianAdjacentCmpFunc_Sint x139 x140 q141 x144).ev (T_slices_medianAdjacentCmpFunc_Sint x139 x140 q142 x144).ev := by
  unfold Tm_slices_medianAdjacentCmpFunc_Sint T_slices_medianAdjacentCmpFunc_Sint
  try dsimp only
  repeat' first
    | with_reducible exact Le.refl _
    | with_reducible exact Le.f _
    | with_reducible refine Le.t ?_ ?_
    | with_reducible refine Le.g ?_
    | with_reducible refine Le.s (fun _ => ?_) (fun _ => ?_)
    | with_reducible refine Le.c ?_ (fun _ => ?_)
    | with_reducible assumption
    | with_reducible apply hq143
    | with_reducible apply mF_slices_medianCmpFunc_Sint
    | with_reducible refine Le.bnd ?_
    | with_reducible intro _
theorem mF_slices_medianAdjacentCmpFunc_Sint (x145 : List (List (Int))) (x146 : Int) (q147 q148 : (HL [(.slice (.int .i64)), (.slice (.int .i64))] → Option (Int))) (hq149 : ∀ h, Le (q147 h) (q148 h)) (x150 : Int) : Le (Fm_slices_medianAdjacentCmpFunc_Sint x145 x146 q147 x150) (F_slices_medianAdjacentCmpFunc_Sint x145 x146 q148 x150) := by
  unfold Fm_slices_medianAdjacentCmpFunc_Sint F_slices_medianAdjacentCmpFunc_Sint
  apply mT_slices_medianAdjacentCmpFunc_Sint
  all_goals assumption
theorem mT_slices_choosePivotCmpFunc_Sint (x151 : List (List (Int))) (x152 : Int) (x153 : Int) (q154 q155 : (HL [(.slice (.int .i64)), (.slice (.int .i64))] → Option (Int))) (hq156 : ∀ h, Le (q154 h) (q155 h)) : Le (Tm_slices_choosePivotCmpFunc_Sint x151 x152 x153 q154).ev (T_slices_choosePivotCmpFunc_Sint x151 x152 x153 q155).ev := by
  unfold Tm_slices_choosePivotCmpFunc_Sint T_slices_choosePivotCmpFunc_Sint
  try dsimp only
  repeat' first
    | with_reducible exact Le.refl _
    | with_reducible exact Le.f _
    | with_reducible refine Le.t ?_ ?_
    | with_reducible refine Le.g ?_
    | with_reducible refine Le.s (fun _ => ?_) (fun _ => ?_)
    | with_reducible refine Le.c ?_ (fun _ => ?_)
    | with_reducible assumption
    | with_reducible apply hq156
    | with_reducible apply mF_slices_medianAdjacentCmpFunc_Sint
    | with_reducible apply mF_slices_medianCmpFunc_Sint
    | with_reducible refine Le.bnd ?_
    | with_reducible intro _
theorem mF_slices_choosePivotCmpFunc_Sint (x157 : List (List (Int))) (x158 : Int) (x159 : Int) (q160 q161 : (HL [(.slice (.int .i64)), (.slice (.int .i64))] → Option (Int))) (hq162 : ∀ h, Le (q160 h) (q161 h)) : Le (Fm_slices_choosePivotCmpFunc_Sint x157 x158 x159 q160) (F_slices_choosePivotCmpFunc_Sint x157 x158 x159 q161) := by
  unfold Fm_slices_choosePivotCmpFunc_Sint F_slices_choosePivotCmpFunc_Sint
  apply mT_slices_choosePivotCmpFunc_Sint
  all_goals assumption
theorem mS_slices_partitionCmpFunc_Sint_0 (c163 : (Int)) (q164 q165 : ((HL [(.slice (.int .i64)), (.slice (.int .i64))] → Option (Int)))) (hq166 : ∀ h, Le (q164 h) (q165 h)) (c167 : (Int)) (c168 : List (List (Int))) (x169 : Int) : Le (Sm_slices_partitionCmpFunc_Sint_0 (c163, (q164, (c167, c168))) x169).ev (S_slices_partitionCmpFunc_Sint_0 (c163, (q165, (c167, c168))) x169).ev := by
  unfold Sm_slices_partitionCmpFunc_Sint_0 S_slices_partitionCmpFunc_Sint_0
  try dsimp only
  repeat' first
    | with_reducible exact Le.refl _
    | with_reducible exact Le.f _
    | with_reducible refine Le.t ?_ ?_
    | with_reducible refine Le.g ?_
    | with_reducible refine Le.s (fun _ => ?_) (fun _ => ?_)
    | with_reducible refine Le.c ?_ (fun _ => ?_)
    | with_reducible assumption
    | with_reducible apply hq166
    | with_reducible refine Le.bnd ?_
    | with_reducible intro _
theorem mL_slices_partitionCmpFunc_Sint_0 (c170 : (Int)) (q171 q172 : ((HL [(.slice (.int .i64)), (.slice (.int .i64))] → Option (Int)))) (hq173 : ∀ h, Le (q171 h) (q172 h)) (c174 : (Int)) (c175 : List (List (Int))) (x176 : Int) : Le (Lm_slices_partitionCmpFunc_Sint_0 (c170, (q171, (c174, c175))) x176) (L_slices_partitionCmpFunc_Sint_0 (c170, (q172, (c174, c175))) x176) := by
  unfold Lm_slices_partitionCmpFunc_Sint_0 L_slices_partitionCmpFunc_Sint_0
  refine Le.it (fun v => ?_) _ _
  apply mS_slices_partitionCmpFunc_Sint_0
  all_goals assumption
theorem mS_slices_partitionCmpFunc_Sint_2 (c177 : (Int)) (q178 q179 : ((HL [(.slice (.int .i64)), (.slice (.int .i64))] → Option (Int)))) (hq180 : ∀ h, Le (q178 h) (q179 h)) (c181 : (Int)) (c182 : List (List (Int))) (x183 : Int) : Le (Sm_slices_partitionCmpFunc_Sint_2 (c177, (q178, (c181, c182))) x183).ev (S_slices_partitionCmpFunc_Sint_2 (c177, (q179, (c181, c182))) x183).ev := by
  unfold Sm_slices_partitionCmpFunc_Sint_2 S_slices_partitionCmpFunc_Sint_2
  try dsimp only
  repeat' first
    | with_reducible exact Le.refl _
    | with_reducible exact Le.f _
    | with_reducible refine Le.t ?_ ?_
    | with_reducible refine Le.g ?_
    | with_reducible refine Le.s (fun _ => ?_) (fun _ => ?_)
    | with_reducible refine Le.c ?_ (fun _ => ?_)
    | with_reducible assumption
    | with_reducible apply hq180
    | with_reducible refine Le.bnd ?_
    | with_reducible intro _
theorem mL_slices_partitionCmpFunc_Sint_2 (c184 : (Int)) (q185 q186 : ((HL [(.slice (.int .i64)), (.slice (.int .i64))] → Option (Int)))) (hq187 : ∀ h, Le (q185 h) (q186 h)) (c188 : (Int)) (c189 : List (List (Int))) (x190 : Int) : Le (Lm_slices_partitionCmpFunc_Sint_2 (c184, (q185, (c188, c189))) x190) (L_slices_partitionCmpFunc_Sint_2 (c184, (q186, (c188, c189))) x190) := by
  unfold Lm_slices_partitionCmpFunc_Sint_2 L_slices_partitionCmpFunc_Sint_2
  refine Le.it (fun v => ?_) _ _
  apply mS_slices_partitionCmpFunc_Sint_2
  all_goals assumption
theorem mS_slices_partitionCmpFunc_Sint_6 (c191 : (Int)) (q192 q193 : ((HL [(.slice (.int .i64)), (.slice (.int .i64))] → Option (Int)))) (hq194 : ∀ h, Le (q192 h) (q193 h)) (c195 : (Int)) (c196 : List (List (Int))) (x197 : Int) : Le (Sm_slices_partitionCmpFunc_Sint_6 (c191, (q192, (c195, c196))) x197).ev (S_slices_partitionCmpFunc_Sint_6 (c191, (q193, (c195, c196))) x197).ev := by
  unfold Sm_slices_partitionCmpFunc_Sint_6 S_slices_partitionCmpFunc_Sint_6
  try dsimp only
  repeat' first
    | with_reducible exact Le.refl _
    | with_reducible exact Le.f _
    | with_reducible refine Le.t ?_ ?_
    | with_reducible refine Le.g ?_
    | with_reducible refine Le.s (fun _ => ?_) (fun _ => ?_)
    | with_reducible refine Le.c ?_ (fun _ => ?_)
    | with_reducible assumption
    | with_reducible apply hq194
    | with_reducible refine Le.bnd ?_
    | with_reducible intro _
theorem mL_slices_partitionCmpFunc_Sint_6 (c198 : (Int)) (q199 q200 : ((HL [(.slice (.int .i64)), (.slice (.int .i64))] → Option (Int)))) (hq201 : ∀ h, Le (q199 h) (q200 h)) (c202 : (Int)) (c203 : List (List (Int))) (x204 : Int) : Le (Lm_slices_partitionCmpFunc_Sint_6 (c198, (q199, (c202, c203))) x204) (L_slices_partitionCmpFunc_Sint_6 (c198, (q200, (c202, c203))) x204) := by
  unfold Lm_slices_partitionCmpFunc_Sint_6 L_slices_partitionCmpFunc_Sint_6
  refine Le.it (fun v => ?_) _ _
  apply mS_slices_partitionCmpFunc_Sint_6
  all_goals assumption
theorem mS_slices_partitionCmpFunc_Sint_8 (c205 : (Int)) (q206 q207 : ((HL [(.slice (.int .i64)), (.slice (.int .i64))] → Option (Int)))) (hq208 : ∀ h, Le (q206 h) (q207 h)) (c209 : (Int)) (c210 : List (List (Int))) (x211 : Int) : Le (Sm_slices_partitionCmpFunc_Sint_8 (c205, (q206, (c209, c210))) x211).ev (S_slices_partitionCmpFunc_Sint_8 (c205, (q207, (c209, c210))) x211).ev := by
  unfold Sm_slices_partitionCmpFunc_Sint_8 S_slices_partitionCmpFunc_Sint_8
  try dsimp only
  repeat' first
    | with_reducible exact Le.refl _
    | with_reducible exact Le.f _
    | with_reducible refine Le.t ?_ ?_
    | with_reducible refine Le.g ?_
    | with_reducible refine Le.s (fun _ => ?_) (fun _ => ?_)
    | with_reducible refine Le.c ?_ (fun _ => ?_)
    | with_reducible assumption
    | with_reducible apply hq208
    | with_reducible refine Le.bnd ?_
    | with_reducible intro _
theorem mL_slices_partitionCmpFunc_Sint_8 (c212 : (Int)) (q213 q214 : ((HL [(.slice (.int .i64)), (.slice (.int .i64))] → Option (Int)))) (hq215 : ∀ h, Le (q213 h) (q214 h)) (c216 : (Int)) (c217 : List (List (Int))) (x218 : Int) : Le (Lm_slices_partitionCmpFunc_Sint_8 (c212, (q213, (c216, c217))) x218) (L_slices_partitionCmpFunc_Sint_8 (c212, (q214, (c216, c217))) x218) := by
  unfold Lm_slices_partitionCmpFunc_Sint_8 L_slices_partitionCmpFunc_Sint_8
  refine Le.it (fun v => ?_) _ _
  apply mS_slices_partitionCmpFunc_Sint_8
  all_goals assumption
theorem mS_slices_partitionCmpFunc_Sint_4 (c219 : (Int)) (q220 q221 : HL [(.slice (.int .i64)), (.slice (.int .i64))] → Option (Int)) (hq222 : ∀ h, Le (q220 h) (q221 h)) (x223 : (Int) × ((Int) × (List (List (Int))))) : Le (Sm_slices_partitionCmpFunc_Sint_4 (c219, q220) x223).ev (S_slices_partitionCmpFunc_Sint_4 (c219, q221) x223).ev := by
  unfold Sm_slices_partitionCmpFunc_Sint_4 S_slices_partitionCmpFunc_Sint_4
  try dsimp only
  repeat' first
    | with_reducible exact Le.refl _
    | with_reducible exact Le.f _
    | with_reducible refine Le.t ?_ ?_
    | with_reducible refine Le.g ?_
    | with_reducible refine Le.s (fun _ => ?_) (fun _ => ?_)
    | with_reducible refine Le.c ?_ (fun _ => ?_)
    | with_reducible assumption
    | with_reducible apply hq222
    | with_reducible apply mL_slices_partitionCmpFunc_Sint_6
    | with_reducible apply mL_slices_partitionCmpFunc_Sint_8
    | with_reducible refine Le.bnd ?_
    | with_reducible intro _
theorem mL_slices_partitionCmpFunc_Sint_4 (c224 : (Int)) (q225 q226 : HL [(.slice (.int .i64)), (.slice (.int .i64))] → Option (Int)) (hq227 : ∀ h, Le (q225 h) (q226 h)) (x228 : (Int) × ((Int) × (List (List (Int))))) : Le (Lm_slices_partitionCmpFunc_Sint_4 (c224, q225) x228) (L_slices_partitionCmpFunc_Sint_4 (c224, q226) x228) := by
  unfold Lm_slices_partitionCmpFunc_Sint_4 L_slices_partitionCmpFunc_Sint_4
  refine Le.it (fun v => ?_) _ _
  apply mS_slices_partitionCmpFunc_Sint_4
  all_goals assumption
theorem mT_slices_partitionCmpFunc_Sint (x229 : Int) (x230 : Int) (x231 : Int) (q232 q233 : (HL [(.slice (.int .i64)), (.slice (.int .i64))] → Option (Int))) (hq234 : ∀ h, Le (q232 h) (q233 h)) (x235 : List (List (Int))) : Le (Tm_slices_partitionCmpFunc_Sint x229 x230 x231 q232 x235).ev (T_slices_partitionCmpFunc_Sint x229 x230 x231 q233 x235).ev := by
  unfold Tm_slices_partitionCmpFunc_Sint T_slices_partitionCmpFunc_Sint
  try dsimp only
  repeat' first
    | with_reducible exact Le.refl _
    | with_reducible exact Le.f _
    | with_reducible refine Le.t ?_ ?_
    | with_reducible refine Le.g ?_
    | with_reducible refine Le.s (fun _ => ?_) (fun _ => ?_)
    | with_reducible refine Le.c ?_ (fun _ => ?_)
    | with_reducible assumption
    | with_reducible apply hq234
    | with_reducible apply mL_slices_partitionCmpFunc_Sint_0
    | with_reducible apply mL_slices_partitionCmpFunc_Sint_2
    | with_reducible apply mL_slices_partitionCmpFunc_Sint_4
    | with_reducible refine Le.bnd ?_
    | with_reducible intro _
theorem mF_slices_partitionCmpFunc_Sint (x236 : Int) (x237 : Int) (x238 : Int) (q239 q240 : (HL [(.slice (.int .i64)), (.slice (.int .i64))] → Option (Int))) (hq241 : ∀ h, Le (q239 h) (q240 h)) (x242 : List (List (Int))) : Le (Fm_slices_partitionCmpFunc_Sint x236 x237 x238 q239 x242) (F_slices_partitionCmpFunc_Sint x236 x237 x238 q240 x242) := by
  unfold Fm_slices_partitionCmpFunc_Sint F_slices_partitionCmpFunc_Sint
  apply mT_slices_partitionCmpFunc_Sint
  all_goals assumption
theorem mS_slices_pdqsortCmpFunc_Sint_0 (rec243 rec244 : (Int) → (Int) → (Int) → ((HL [(.slice (.int .i64)), (.slice (.int .i64))] → Option (Int))) → (List (List (Int))) → Option (List (List (Int)))) (hr245 : ∀ (x246 : (Int)) (x247 : (Int)) (x248 : (Int)) (q249 q250 : ((HL [(.slice (.int .i64)), (.slice (.int .i64))] → Option (Int)))) (hq251 : ∀ h, Le (q249 h) (q250 h)) (x252 : (List (List (Int)))), Le (rec243 x246 x247 x248 q249 x252) (rec244 x246 x247 x248 q250 x252)) (c253 : (Int)) (q254 q255 : HL [(.slice (.int .i64)), (.slice (.int .i64))] → Option (Int)) (hq256 : ∀ h, Le (q254 h) (q255 h)) (x257 : (Int) × ((Int) × ((Bool) × ((Bool) × (List (List (Int))))))) : Le (Sm_slices_pdqsortCmpFunc_Sint_0 rec243 (c253, q254) x257).ev (S_slices_pdqsortCmpFunc_Sint_0 rec244 (c253, q255) x257).ev := by
  unfold Sm_slices_pdqsortCmpFunc_Sint_0 S_slices_pdqsortCmpFunc_Sint_0
  try dsimp only
  repeat' first
    | with_reducible exact Le.refl _
    | with_reducible exact Le.f _
    | with_reducible refine Le.t ?_ ?_
    | with_reducible refine Le.g ?_
    | with_reducible refine Le.s (fun _ => ?_) (fun _ => ?_)
    | with_reducible refine Le.c ?_ (fun _ => ?_)
    | with_reducible assumption
    | with_reducible apply hr245
    | with_reducible apply hq256
    | with_reducible apply mF_slices_insertionSortCmpFunc_Sint
    | with_reducible apply mF_slices_choosePivotCmpFunc_Sint
    | with_reducible apply mF_slices_partitionCmpFunc_Sint
    | with_reducible refine Le.bnd ?_
    | with_reducible intro _
theorem mL_slices_pdqsortCmpFunc_Sint_0 (rec258 rec259 : (Int) → (Int) → (Int) → ((HL [(.slice (.int .i64)), (.slice (.int .i64))] → Option (Int))) → (List (List (Int))) → Option (List (List (Int)))) (hr260 : ∀ (x261 : (Int)) (x262 : (Int)) (x263 : (Int)) (q264 q265 : ((HL [(.slice (.int .i64)), (.slice (.int .i64))] → Option (Int)))) (hq266 : ∀ h, Le (q264 h) (q265 h)) (x267 : (List (List (Int)))), Le (rec258 x261 x262 x263 q264 x267) (rec259 x261 x262 x263 q265 x267)) (c268 : (Int)) (q269 q270 : HL [(.slice (.int .i64)), (.slice (.int .i64))] → Option (Int)) (hq271 : ∀ h, Le (q269 h) (q270 h)) (x272 : (Int) × ((Int) × ((Bool) × ((Bool) × (List (List (Int))))))) : Le (Lm_slices_pdqsortCmpFunc_Sint_0 rec258 (c268, q269) x272) (L_slices_pdqsortCmpFunc_Sint_0 rec259 (c268, q270) x272) := by
  unfold Lm_slices_pdqsortCmpFunc_Sint_0 L_slices_pdqsortCmpFunc_Sint_0
  refine Le.it (fun v => ?_) _ _
  apply mS_slices_pdqsortCmpFunc_Sint_0
  all_goals assumption
theorem mT_slices_pdqsortCmpFunc_Sint (rec273 rec274 : (Int) → (Int) → (Int) → ((HL [(.slice (.int .i64)), (.slice (.int .i64))] → Option (Int))) → (List (List (Int))) → Option (List (List (Int)))) (hr275 : ∀ (x276 : (Int)) (x277 : (Int)) (x278 : (Int)) (q279 q280 : ((HL [(.slice (.int .i64)), (.slice (.int .i64))] → Option (Int)))) (hq281 : ∀ h, Le (q279 h) (q280 h)) (x282 : (List (List (Int)))), Le (rec273 x276 x277 x278 q279 x282) (rec274 x276 x277 x278 q280 x282)) (x283 : Int) (x284 : Int) (x285 : Int) (q286 q287 : (HL [(.slice (.int .i64)), (.slice (.int .i64))] → Option (Int))) (hq288 : ∀ h, Le (q286 h) (q287 h)) (x289 : List (List (Int))) : Le (Tm_slices_pdqsortCmpFunc_Sint rec273 x283 x284 x285 q286 x289).ev (T_slices_pdqsortCmpFunc_Sint rec274 x283 x284 x285 q287 x289).ev := by
  unfold Tm_slices_pdqsortCmpFunc_Sint T_slices_pdqsortCmpFunc_Sint
  try dsimp only
  repeat' first
    | with_reducible exact Le.refl _
    | with_reducible exact Le.f _
    | with_reducible refine Le.t ?_ ?_
    | with_reducible refine Le.g ?_
    | with_reducible refine Le.s (fun _ => ?_) (fun _ => ?_)
    | with_reducible refine Le.c ?_ (fun _ => ?_)
    | with_reducible assumption
    | with_reducible apply hr275
    | with_reducible apply hq288
    | with_reducible apply mL_slices_pdqsortCmpFunc_Sint_0
    | with_reducible refine Le.bnd ?_
    | with_reducible intro _
theorem mF_slices_pdqsortCmpFunc_Sint : ∀ (n : Nat) (x290 : (Int)) (x291 : (Int)) (x292 : (Int)) (q293 q294 : ((HL [(.slice (.int .i64)), (.slice (.int .i64))] → Option (Int)))) (hq295 : ∀ h, Le (q293 h) (q294 h)) (x296 : (List (List (Int)))), Le (Fm_slices_pdqsortCmpFunc_Sint n x290 x291 x292 q293 x296) (F_slices_pdqsortCmpFunc_Sint n x290 x291 x292 q294 x296)
  | 0 => by intros; exact Le.none _
  | n + 1 => by
    intros
    unfold Fm_slices_pdqsortCmpFunc_Sint F_slices_pdqsortCmpFunc_Sint
    apply mT_slices_pdqsortCmpFunc_Sint
    · exact mF_slices_pdqsortCmpFunc_Sint n
    all_goals assumption
theorem mT_slices_SortFunc_SSint_Sint (q297 q298 : (HL [(.slice (.int .i64)), (.slice (.int .i64))] → Option (Int))) (hq299 : ∀ h, Le (q297 h) (q298 h)) (x300 : List (List (Int))) : Le (Tm_slices_SortFunc_SSint_Sint q297 x300).ev (T_slices_SortFunc_SSint_Sint q298 x300).ev := by
  unfold Tm_slices_SortFunc_SSint_Sint T_slices_SortFunc_SSint_Sint
  try dsimp only
  repeat' first
    | with_reducible exact Le.refl _
    | with_reducible exact Le.f _
    | with_reducible refine Le.t ?_ ?_
    | with_reducible refine Le.g ?_
    | with_reducible refine Le.s (fun _ => ?_) (fun _ => ?_)
    | with_reducible refine Le.c ?_ (fun _ => ?_)
    | with_reducible assumption
    | with_reducible apply hq299
    | with_reducible apply mF_math_bits_Len
    | with_reducible apply mF_slices_pdqsortCmpFunc_Sint
    | with_reducible refine Le.bnd ?_
    | with_reducible intro _
theorem mF_slices_SortFunc_SSint_Sint (q301 q302 : (HL [(.slice (.int .i64)), (.slice (.int .i64))] → Option (Int))) (hq303 : ∀ h, Le (q301 h) (q302 h)) (x304 : List (List (Int))) : Le (Fm_slices_SortFunc_SSint_Sint q301 x304) (F_slices_SortFunc_SSint_Sint q302 x304) := by
  unfold Fm_slices_SortFunc_SSint_Sint F_slices_SortFunc_SSint_Sint
  apply mT_slices_SortFunc_SSint_Sint
  all_goals assumption
theorem mT_cmp_isNaN_int (x305 : Int) : Le (Tm_cmp_isNaN_int x305).ev (T_cmp_isNaN_int x305).ev := by
  unfold Tm_cmp_isNaN_int T_cmp_isNaN_int
  try dsimp only
  repeat' first
    | with_reducible exact Le.refl _
    | with_reducible exact Le.f _
    | with_reducible refine Le.t ?_ ?_
    | with_reducible refine Le.g ?_
    | with_reducible refine Le.s (fun _ => ?_) (fun _ => ?_)
    | with_reducible refine Le.c ?_ (fun _ => ?_)
    | with_reducible assumption
    | with_reducible refine Le.bnd ?_
    | with_reducible intro _
theorem mF_cmp_isNaN_int (x306 : Int) : Le (Fm_cmp_isNaN_int x306) (F_cmp_isNaN_int x306) := by
  unfold Fm_cmp_isNaN_int F_cmp_isNaN_int
  apply mT_cmp_isNaN_int
  all_goals assumption
theorem mT_cmp_Compare_int (x307 : Int) (x308 : Int) : Le (Tm_cmp_Compare_int x307 x308).ev (T_cmp_Compare_int x307 x308).ev := by
  unfold Tm_cmp_Compare_int T_cmp_Compare_int
  try dsimp only
  repeat' first
    | with_reducible exact Le.refl _
    | with_reducible exact Le.f _
    | with_reducible refine Le.t ?_ ?_
    | with_reducible refine Le.g ?_
    | with_reducible refine Le.s (fun _ => ?_) (fun _ => ?_)
    | with_reducible refine Le.c ?_ (fun _ => ?_)
    | with_reducible assumption
    | with_reducible apply mF_cmp_isNaN_int
    | with_reducible refine Le.bnd ?_
    | with_reducible intro _
theorem mF_cmp_Compare_int (x309 : Int) (x310 : Int) : Le (Fm_cmp_Compare_int x309 x310) (F_cmp_Compare_int x309 x310) := by
  unfold Fm_cmp_Compare_int F_cmp_Compare_int
  apply mT_cmp_Compare_int
  all_goals assumption
theorem mS_slices_Compare_Sint_int_0 (x311 : (List (Int)) × ((List (Int)) × ((List (Int)) × (Int)))) (x312 : Int) : Le (Sm_slices_Compare_Sint_int_0 x311 x312).ev (S_slices_Compare_Sint_int_0 x311 x312).ev := by
  unfold Sm_slices_Compare_Sint_int_0 S_slices_Compare_Sint_int_0
  try dsimp only
  repeat' first
    | with_reducible exact Le.refl _
    | with_reducible exact Le.f _
    | with_reducible refine Le.t ?_ ?_
    | with_reducible refine Le.g ?_
    | with_reducible refine Le.s (fun _ => ?_) (fun _ => ?_)
    | with_reducible refine Le.c ?_ (fun _ => ?_)
    | with_reducible assumption
    | with_reducible apply mF_cmp_Compare_int
    | with_reducible refine Le.bnd ?_
    | with_reducible intro _
theorem mL_slices_Compare_Sint_int_0 (x313 : (List (Int)) × ((List (Int)) × ((List (Int)) × (Int)))) (x314 : Int) : Le (Lm_slices_Compare_Sint_int_0 x313 x314) (L_slices_Compare_Sint_int_0 x313 x314) := by
  unfold Lm_slices_Compare_Sint_int_0 L_slices_Compare_Sint_int_0
  refine Le.it (fun v => ?_) _ _
  apply mS_slices_Compare_Sint_int_0
  all_goals assumption
theorem mT_slices_Compare_Sint_int (x315 : List (Int)) (x316 : List (Int)) : Le (Tm_slices_Compare_Sint_int x315 x316).ev (T_slices_Compare_Sint_int x315 x316).ev := by
  unfold Tm_slices_Compare_Sint_int T_slices_Compare_Sint_int
  try dsimp only
  repeat' first
    | with_reducible exact Le.refl _
    | with_reducible exact Le.f _
    | with_reducible refine Le.t ?_ ?_
    | with_reducible refine Le.g ?_
    | with_reducible refine Le.s (fun _ => ?_) (fun _ => ?_)
    | with_reducible refine Le.c ?_ (fun _ => ?_)
    | with_reducible assumption
    | with_reducible apply mL_slices_Compare_Sint_int_0
    | with_reducible refine Le.bnd ?_
    | with_reducible intro _
theorem mF_slices_Compare_Sint_int (x317 : List (Int)) (x318 : List (Int)) : Le (Fm_slices_Compare_Sint_int x317 x318) (F_slices_Compare_Sint_int x317 x318) := by
  unfold Fm_slices_Compare_Sint_int F_slices_Compare_Sint_int
  apply mT_slices_Compare_Sint_int
  all_goals assumption
theorem mS_cmp_Or_int_0 (x319 : (Int) × ((List (Int)) × (Int))) (x320 : Int) : Le (Sm_cmp_Or_int_0 x319 x320).ev (S_cmp_Or_int_0 x319 x320).ev := by
  unfold Sm_cmp_Or_int_0 S_cmp_Or_int_0
  try dsimp only
  repeat' first
    | with_reducible exact Le.refl _
    | with_reducible exact Le.f _
    | with_reducible refine Le.t ?_ ?_
    | with_reducible refine Le.g ?_
    | with_reducible refine Le.s (fun _ => ?_) (fun _ => ?_)
    | with_reducible refine Le.c ?_ (fun _ => ?_)
    | with_reducible assumption
    | with_reducible refine Le.bnd ?_
    | with_reducible intro _
theorem mL_cmp_Or_int_0 (x321 : (Int) × ((List (Int)) × (Int))) (x322 : Int) : Le (Lm_cmp_Or_int_0 x321 x322) (L_cmp_Or_int_0 x321 x322) := by
  unfold Lm_cmp_Or_int_0 L_cmp_Or_int_0
  refine Le.it (fun v => ?_) _ _
  apply mS_cmp_Or_int_0
  all_goals assumption
theorem mT_cmp_Or_int (x323 : List (Int)) : Le (Tm_cmp_Or_int x323).ev (T_cmp_Or_int x323).ev := by
  unfold Tm_cmp_Or_int T_cmp_Or_int
  try dsimp only
  repeat' first
    | with_reducible exact Le.refl _
    | with_reducible exact Le.f _
    | with_reducible refine Le.t ?_ ?_
    | with_reducible refine Le.g ?_
    | with_reducible refine Le.s (fun _ => ?_) (fun _ => ?_)
    | with_reducible refine Le.c ?_ (fun _ => ?_)
    | with_reducible assumption
    | with_reducible apply mL_cmp_Or_int_0
    | with_reducible refine Le.bnd ?_
    | with_reducible intro _
theorem mF_cmp_Or_int (x324 : List (Int)) : Le (Fm_cmp_Or_int x324) (F_cmp_Or_int x324) := by
  unfold Fm_cmp_Or_int F_cmp_Or_int
  apply mT_cmp_Or_int
  all_goals assumption
theorem mT_im_compareSets (x325 : List (Int)) (x326 : List (Int)) : Le (Tm_im_compareSets x325 x326).ev (T_im_compareSets x325 x326).ev := by
  unfold Tm_im_compareSets T_im_compareSets
  try dsimp only
  repeat' first
    | with_reducible exact Le.refl _
    | with_reducible exact Le.f _
    | with_reducible refine Le.t ?_ ?_
    | with_reducible refine Le.g ?_
    | with_reducible refine Le.s (fun _ => ?_) (fun _ => ?_)
    | with_reducible refine Le.c ?_ (fun _ => ?_)
    | with_reducible assumption
    | with_reducible apply mF_cmp_Compare_int
    | with_reducible apply mF_slices_Compare_Sint_int
    | with_reducible apply mF_cmp_Or_int
    | with_reducible refine Le.bnd ?_
    | with_reducible intro _
theorem mF_im_compareSets (x327 : List (Int)) (x328 : List (Int)) : Le (Fm_im_compareSets x327 x328) (F_im_compareSets x327 x328) := by
  unfold Fm_im_compareSets F_im_compareSets
  apply mT_im_compareSets
  all_goals assumption
theorem mS_im_sets_0 (x329 : Int) (x330 : (Int) × (List (List (Int)))) : Le (Sm_im_sets_0 x329 x330).ev (S_im_sets_0 x329 x330).ev := by
  unfold Sm_im_sets_0 S_im_sets_0
  try dsimp only
  repeat' first
    | with_reducible exact Le.refl _
    | with_reducible exact Le.f _
    | with_reducible refine Le.t ?_ ?_
    | with_reducible refine Le.g ?_
    | with_reducible refine Le.s (fun _ => ?_) (fun _ => ?_)
    | with_reducible refine Le.c ?_ (fun _ => ?_)
    | with_reducible assumption
    | with_reducible apply mF_im_bag_list
    | with_reducible refine Le.bnd ?_
    | with_reducible intro _
theorem mL_im_sets_0 (x331 : Int) (x332 : (Int) × (List (List (Int)))) : Le (Lm_im_sets_0 x331 x332) (L_im_sets_0 x331 x332) := by
  unfold Lm_im_sets_0 L_im_sets_0
  refine Le.it (fun v => ?_) _ _
  apply mS_im_sets_0
  all_goals assumption
theorem mT_im_sets (x333 : Int) : Le (Tm_im_sets x333).ev (T_im_sets x333).ev := by
  unfold Tm_im_sets T_im_sets
  try dsimp only
  repeat' first
    | with_reducible exact Le.refl _
    | with_reducible exact Le.f _
    | with_reducible refine Le.t ?_ ?_
    | with_reducible refine Le.g ?_
    | with_reducible refine Le.s (fun _ => ?_) (fun _ => ?_)
    | with_reducible refine Le.c ?_ (fun _ => ?_)
    | with_reducible assumption
    | with_reducible apply mL_im_sets_0
    | with_reducible apply mF_slices_SortFunc_SSint_Sint
    | with_reducible apply mF_im_compareSets
    | with_reducible refine Le.bnd ?_
    | with_reducible intro _
theorem mF_im_sets (x334 : Int) : Le (Fm_im_sets x334) (F_im_sets x334) := by
  unfold Fm_im_sets F_im_sets
  apply mT_im_sets
  all_goals assumption
theorem mS_im_isRising_0 (x335 : (List (Int)) × ((Int) × ((List (Int)) × (Int)))) (x336 : Int) : Le (Sm_im_isRising_0 x335 x336).ev (S_im_isRising_0 x335 x336).ev := by
  unfold Sm_im_isRising_0 S_im_isRising_0
  try dsimp only
  repeat' first
    | with_reducible exact Le.refl _
    | with_reducible exact Le.f _
    | with_reducible refine Le.t ?_ ?_
    | with_reducible refine Le.g ?_
    | with_reducible refine Le.s (fun _ => ?_) (fun _ => ?_)
    | with_reducible refine Le.c ?_ (fun _ => ?_)
    | with_reducible assumption
    | with_reducible apply mF_im_between
    | with_reducible refine Le.bnd ?_
    | with_reducible intro _
theorem mL_im_isRising_0 (x337 : (List (Int)) × ((Int) × ((List (Int)) × (Int)))) (x338 : Int) : Le (Lm_im_isRising_0 x337 x338) (L_im_isRising_0 x337 x338) := by
  unfold Lm_im_isRising_0 L_im_isRising_0
  refine Le.it (fun v => ?_) _ _
  apply mS_im_isRising_0
  all_goals assumption
theorem mT_im_isRising (x339 : List (Int)) (x340 : Int) : Le (Tm_im_isRising x339 x340).ev (T_im_isRising x339 x340).ev := by
  unfold Tm_im_isRising T_im_isRising
  try dsimp only
  repeat' first
    | with_reducible exact Le.refl _
    | with_reducible exact Le.f _
    | with_reducible refine Le.t ?_ ?_
    | with_reducible refine Le.g ?_
    | with_reducible refine Le.s (fun _ => ?_) (fun _ => ?_)
    | with_reducible refine Le.c ?_ (fun _ => ?_)
    | with_reducible assumption
    | with_reducible apply mL_im_isRising_0
    | with_reducible refine Le.bnd ?_
    | with_reducible intro _
theorem mF_im_isRising (x341 : List (Int)) (x342 : Int) : Le (Fm_im_isRising x341 x342) (F_im_isRising x341 x342) := by
  unfold Fm_im_isRising F_im_isRising
  apply mT_im_isRising
  all_goals assumption
theorem mS_im_bagOf_0 (x343 : (List (Int)) × (Int)) (x344 : (Int) × (Int)) : Le (Sm_im_bagOf_0 x343 x344).ev (S_im_bagOf_0 x343 x344).ev := by
  unfold Sm_im_bagOf_0 S_im_bagOf_0
  try dsimp only
  repeat' first
    | with_reducible exact Le.refl _
    | with_reducible exact Le.f _
    | with_reducible refine Le.t ?_ ?_
    | with_reducible refine Le.g ?_
    | with_reducible refine Le.s (fun _ => ?_) (fun _ => ?_)
    | with_reducible refine Le.c ?_ (fun _ => ?_)
    | with_reducible assumption
    | with_reducible refine Le.bnd ?_
    | with_reducible intro _
theorem mL_im_bagOf_0 (x345 : (List (Int)) × (Int)) (x346 : (Int) × (Int)) : Le (Lm_im_bagOf_0 x345 x346) (L_im_bagOf_0 x345 x346) := by
  unfold Lm_im_bagOf_0 L_im_bagOf_0
  refine Le.it (fun v => ?_) _ _
  apply mS_im_bagOf_0
  all_goals assumption
theorem mT_im_bagOf (x347 : List (Int)) : Le (Tm_im_bagOf x347).ev (T_im_bagOf x347).ev := by
  unfold Tm_im_bagOf T_im_bagOf
  try dsimp only
  repeat' first
    | with_reducible exact Le.refl _
    | with_reducible exact Le.f _
    | with_reducible refine Le.t ?_ ?_
    | with_reducible refine Le.g ?_
    | with_reducible refine Le.s (fun _ => ?_) (fun _ => ?_)
    | with_reducible refine Le.c ?_ (fun _ => ?_)
    | with_reducible assumption
    | with_reducible apply mL_im_bagOf_0
    | with_reducible refine Le.bnd ?_
    | with_reducible intro _
theorem mF_im_bagOf (x348 : List (Int)) : Le (Fm_im_bagOf x348) (F_im_bagOf x348) := by
  unfold Fm_im_bagOf F_im_bagOf
  apply mT_im_bagOf
  all_goals assumption
end Go.Proofs.Ytlmbhkmaflhagaa
