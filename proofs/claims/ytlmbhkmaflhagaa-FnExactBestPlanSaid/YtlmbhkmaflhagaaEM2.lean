import Derived.Test.YtlmbhkmaflhagaaEM1
namespace Go.Proofs.Ytlmbhkmaflhagaa
theorem mT_sp_l1In (x1 : Int) (x2 : Int) (x3 : Int) : Le (Tm_sp_l1In x1 x2 x3).ev (T_sp_l1In x1 x2 x3).ev := by
  unfold Tm_sp_l1In T_sp_l1In
  try dsimp only
  repeat' first
    | with_reducible exact Le.refl _
    | with_reducible exact Le.f _
    | with_reducible refine Le.t ?_ ?_
    | with_reducible refine Le.g ?_
    | with_reducible refine Le.s (fun _ => ?_) (fun _ => ?_)
    | with_reducible refine Le.c ?_ (fun _ => ?_)
    | with_reducible assumption
    | with_reducible refine Le.bnd ?_
    | with_reducible intro _
theorem mF_sp_l1In (x4 : Int) (x5 : Int) (x6 : Int) : Le (Fm_sp_l1In x4 x5 x6) (F_sp_l1In x4 x5 x6) := by
  unfold Fm_sp_l1In F_sp_l1In
  apply mT_sp_l1In
  all_goals assumption
theorem mS_sp_l2Bits_0 (x7 : (Int) × (Int)) (x8 : (Int) × (List (Int))) : Le (Sm_sp_l2Bits_0 x7 x8).ev (S_sp_l2Bits_0 x7 x8).ev := by
  unfold Sm_sp_l2Bits_0 S_sp_l2Bits_0
  try dsimp only
  repeat' first
    | with_reducible exact Le.refl _
    | with_reducible exact Le.f _
    | with_reducible refine Le.t ?_ ?_
    | with_reducible refine Le.g ?_
    | with_reducible refine Le.s (fun _ => ?_) (fun _ => ?_)
    | with_reducible refine Le.c ?_ (fun _ => ?_)
    | with_reducible assumption
    | with_reducible refine Le.bnd ?_
    | with_reducible intro _
theorem mL_sp_l2Bits_0 (x9 : (Int) × (Int)) (x10 : (Int) × (List (Int))) : Le (Lm_sp_l2Bits_0 x9 x10) (L_sp_l2Bits_0 x9 x10) := by
  unfold Lm_sp_l2Bits_0 L_sp_l2Bits_0
  refine Le.it (fun v => ?_) _ _
  apply mS_sp_l2Bits_0
  all_goals assumption
theorem mT_sp_l2Bits (x11 : Int) (x12 : Int) : Le (Tm_sp_l2Bits x11 x12).ev (T_sp_l2Bits x11 x12).ev := by
  unfold Tm_sp_l2Bits T_sp_l2Bits
  try dsimp only
  repeat' first
    | with_reducible exact Le.refl _
    | with_reducible exact Le.f _
    | with_reducible refine Le.t ?_ ?_
    | with_reducible refine Le.g ?_
    | with_reducible refine Le.s (fun _ => ?_) (fun _ => ?_)
    | with_reducible refine Le.c ?_ (fun _ => ?_)
    | with_reducible assumption
    | with_reducible apply mL_sp_l2Bits_0
    | with_reducible refine Le.bnd ?_
    | with_reducible intro _
theorem mF_sp_l2Bits (x13 : Int) (x14 : Int) : Le (Fm_sp_l2Bits x13 x14) (F_sp_l2Bits x13 x14) := by
  unfold Fm_sp_l2Bits F_sp_l2Bits
  apply mT_sp_l2Bits
  all_goals assumption
theorem mS_sp_l2Before_0 (x15 : (List (Int)) × (List (Int))) (x16 : Int) : Le (Sm_sp_l2Before_0 x15 x16).ev (S_sp_l2Before_0 x15 x16).ev := by
  unfold Sm_sp_l2Before_0 S_sp_l2Before_0
  try dsimp only
  repeat' first
    | with_reducible exact Le.refl _
    | with_reducible exact Le.f _
    | with_reducible refine Le.t ?_ ?_
    | with_reducible refine Le.g ?_
    | with_reducible refine Le.s (fun _ => ?_) (fun _ => ?_)
    | with_reducible refine Le.c ?_ (fun _ => ?_)
    | with_reducible assumption
    | with_reducible refine Le.bnd ?_
    | with_reducible intro _
theorem mL_sp_l2Before_0 (x17 : (List (Int)) × (List (Int))) (x18 : Int) : Le (Lm_sp_l2Before_0 x17 x18) (L_sp_l2Before_0 x17 x18) := by
  unfold Lm_sp_l2Before_0 L_sp_l2Before_0
  refine Le.it (fun v => ?_) _ _
  apply mS_sp_l2Before_0
  all_goals assumption
theorem mT_sp_l2Before (x19 : List (Int)) (x20 : List (Int)) : Le (Tm_sp_l2Before x19 x20).ev (T_sp_l2Before x19 x20).ev := by
  unfold Tm_sp_l2Before T_sp_l2Before
  try dsimp only
  repeat' first
    | with_reducible exact Le.refl _
    | with_reducible exact Le.f _
    | with_reducible refine Le.t ?_ ?_
    | with_reducible refine Le.g ?_
    | with_reducible refine Le.s (fun _ => ?_) (fun _ => ?_)
    | with_reducible refine Le.c ?_ (fun _ => ?_)
    | with_reducible assumption
    | with_reducible apply mL_sp_l2Before_0
    | with_reducible refine Le.bnd ?_
    | with_reducible intro _
theorem mF_sp_l2Before (x21 : List (Int)) (x22 : List (Int)) : Le (Fm_sp_l2Before x21 x22) (F_sp_l2Before x21 x22) := by
  unfold Fm_sp_l2Before F_sp_l2Before
  apply mT_sp_l2Before
  all_goals assumption
theorem mS_sp_l2Sets_2 (x23 : (Int) × ((List (List (Int))) × ((Int) × (List (Int))))) (x24 : Int) : Le (Sm_sp_l2Sets_2 x23 x24).ev (S_sp_l2Sets_2 x23 x24).ev := by
  unfold Sm_sp_l2Sets_2 S_sp_l2Sets_2
  try dsimp only
  repeat' first
    | with_reducible exact Le.refl _
    | with_reducible exact Le.f _
    | with_reducible refine Le.t ?_ ?_
    | with_reducible refine Le.g ?_
    | with_reducible refine Le.s (fun _ => ?_) (fun _ => ?_)
    | with_reducible refine Le.c ?_ (fun _ => ?_)
    | with_reducible assumption
    | with_reducible apply mF_sp_l2Before
    | with_reducible refine Le.bnd ?_
    | with_reducible intro _
theorem mL_sp_l2Sets_2 (x25 : (Int) × ((List (List (Int))) × ((Int) × (List (Int))))) (x26 : Int) : Le (Lm_sp_l2Sets_2 x25 x26) (L_sp_l2Sets_2 x25 x26) := by
  unfold Lm_sp_l2Sets_2 L_sp_l2Sets_2
  refine Le.it (fun v => ?_) _ _
  apply mS_sp_l2Sets_2
  all_goals assumption
theorem mS_sp_l2Sets_0 (x27 : Int) (x28 : (List (List (Int))) × (Int)) : Le (Sm_sp_l2Sets_0 x27 x28).ev (S_sp_l2Sets_0 x27 x28).ev := by
  unfold Sm_sp_l2Sets_0 S_sp_l2Sets_0
  try dsimp only
  repeat' first
    | with_reducible exact Le.refl _
    | with_reducible exact Le.f _
    | with_reducible refine Le.t ?_ ?_
    | with_reducible refine Le.g ?_
    | with_reducible refine Le.s (fun _ => ?_) (fun _ => ?_)
    | with_reducible refine Le.c ?_ (fun _ => ?_)
    | with_reducible assumption
    | with_reducible apply mF_sp_l2Bits
    | with_reducible apply mL_sp_l2Sets_2
    | with_reducible refine Le.bnd ?_
    | with_reducible intro _
theorem mL_sp_l2Sets_0 (x29 : Int) (x30 : (List (List (Int))) × (Int)) : Le (Lm_sp_l2Sets_0 x29 x30) (L_sp_l2Sets_0 x29 x30) := by
  unfold Lm_sp_l2Sets_0 L_sp_l2Sets_0
  refine Le.it (fun v => ?_) _ _
  apply mS_sp_l2Sets_0
  all_goals assumption
theorem mT_sp_l2Sets (x31 : Int) : Le (Tm_sp_l2Sets x31).ev (T_sp_l2Sets x31).ev := by
  unfold Tm_sp_l2Sets T_sp_l2Sets
  try dsimp only
  repeat' first
    | with_reducible exact Le.refl _
    | with_reducible exact Le.f _
    | with_reducible refine Le.t ?_ ?_
    | with_reducible refine Le.g ?_
    | with_reducible refine Le.s (fun _ => ?_) (fun _ => ?_)
    | with_reducible refine Le.c ?_ (fun _ => ?_)
    | with_reducible assumption
    | with_reducible apply mL_sp_l2Sets_0
    | with_reducible refine Le.bnd ?_
    | with_reducible intro _
theorem mF_sp_l2Sets (x32 : Int) : Le (Fm_sp_l2Sets x32) (F_sp_l2Sets x32) := by
  unfold Fm_sp_l2Sets F_sp_l2Sets
  apply mT_sp_l2Sets
  all_goals assumption
theorem mS_sp_l1Rising_0 (x33 : (List (Int)) × ((Int) × (Int))) (x34 : Int) : Le (Sm_sp_l1Rising_0 x33 x34).ev (S_sp_l1Rising_0 x33 x34).ev := by
  unfold Sm_sp_l1Rising_0 S_sp_l1Rising_0
  try dsimp only
  repeat' first
    | with_reducible exact Le.refl _
    | with_reducible exact Le.f _
    | with_reducible refine Le.t ?_ ?_
    | with_reducible refine Le.g ?_
    | with_reducible refine Le.s (fun _ => ?_) (fun _ => ?_)
    | with_reducible refine Le.c ?_ (fun _ => ?_)
    | with_reducible assumption
    | with_reducible apply mF_sp_l1In
    | with_reducible refine Le.bnd ?_
    | with_reducible intro _
theorem mL_sp_l1Rising_0 (x35 : (List (Int)) × ((Int) × (Int))) (x36 : Int) : Le (Lm_sp_l1Rising_0 x35 x36) (L_sp_l1Rising_0 x35 x36) := by
  unfold Lm_sp_l1Rising_0 L_sp_l1Rising_0
  refine Le.it (fun v => ?_) _ _
  apply mS_sp_l1Rising_0
  all_goals assumption
theorem mT_sp_l1Rising (x37 : List (Int)) (x38 : Int) (x39 : Int) : Le (Tm_sp_l1Rising x37 x38 x39).ev (T_sp_l1Rising x37 x38 x39).ev := by
  unfold Tm_sp_l1Rising T_sp_l1Rising
  try dsimp only
  repeat' first
    | with_reducible exact Le.refl _
    | with_reducible exact Le.f _
    | with_reducible refine Le.t ?_ ?_
    | with_reducible refine Le.g ?_
    | with_reducible refine Le.s (fun _ => ?_) (fun _ => ?_)
    | with_reducible refine Le.c ?_ (fun _ => ?_)
    | with_reducible assumption
    | with_reducible apply mL_sp_l1Rising_0
    | with_reducible refine Le.bnd ?_
    | with_reducible intro _
theorem mF_sp_l1Rising (x40 : List (Int)) (x41 : Int) (x42 : Int) : Le (Fm_sp_l1Rising x40 x41 x42) (F_sp_l1Rising x40 x41 x42) := by
  unfold Fm_sp_l1Rising F_sp_l1Rising
  apply mT_sp_l1Rising
  all_goals assumption
theorem mS_sp_l1Has_0 (x43 : (List (Int)) × (Int)) (x44 : Int) : Le (Sm_sp_l1Has_0 x43 x44).ev (S_sp_l1Has_0 x43 x44).ev := by
  unfold Sm_sp_l1Has_0 S_sp_l1Has_0
  try dsimp only
  repeat' first
    | with_reducible exact Le.refl _
    | with_reducible exact Le.f _
    | with_reducible refine Le.t ?_ ?_
    | with_reducible refine Le.g ?_
    | with_reducible refine Le.s (fun _ => ?_) (fun _ => ?_)
    | with_reducible refine Le.c ?_ (fun _ => ?_)
    | with_reducible assumption
    | with_reducible refine Le.bnd ?_
    | with_reducible intro _
theorem mL_sp_l1Has_0 (x45 : (List (Int)) × (Int)) (x46 : Int) : Le (Lm_sp_l1Has_0 x45 x46) (L_sp_l1Has_0 x45 x46) := by
  unfold Lm_sp_l1Has_0 L_sp_l1Has_0
  refine Le.it (fun v => ?_) _ _
  apply mS_sp_l1Has_0
  all_goals assumption
theorem mT_sp_l1Has (x47 : List (Int)) (x48 : Int) : Le (Tm_sp_l1Has x47 x48).ev (T_sp_l1Has x47 x48).ev := by
  unfold Tm_sp_l1Has T_sp_l1Has
  try dsimp only
  repeat' first
    | with_reducible exact Le.refl _
    | with_reducible exact Le.f _
    | with_reducible refine Le.t ?_ ?_
    | with_reducible refine Le.g ?_
    | with_reducible refine Le.s (fun _ => ?_) (fun _ => ?_)
    | with_reducible refine Le.c ?_ (fun _ => ?_)
    | with_reducible assumption
    | with_reducible apply mL_sp_l1Has_0
    | with_reducible refine Le.bnd ?_
    | with_reducible intro _
theorem mF_sp_l1Has (x49 : List (Int)) (x50 : Int) : Le (Fm_sp_l1Has x49 x50) (F_sp_l1Has x49 x50) := by
  unfold Fm_sp_l1Has F_sp_l1Has
  apply mT_sp_l1Has
  all_goals assumption
theorem mS_sp_l10Code_0 (x51 : List (Int)) (x52 : (Int) × (Int)) : Le (Sm_sp_l10Code_0 x51 x52).ev (S_sp_l10Code_0 x51 x52).ev := by
  unfold Sm_sp_l10Code_0 S_sp_l10Code_0
  try dsimp only
  repeat' first
    | with_reducible exact Le.refl _
    | with_reducible exact Le.f _
    | with_reducible refine Le.t ?_ ?_
    | with_reducible refine Le.g ?_
    | with_reducible refine Le.s (fun _ => ?_) (fun _ => ?_)
    | with_reducible refine Le.c ?_ (fun _ => ?_)
    | with_reducible assumption
    | with_reducible refine Le.bnd ?_
    | with_reducible intro _
theorem mL_sp_l10Code_0 (x53 : List (Int)) (x54 : (Int) × (Int)) : Le (Lm_sp_l10Code_0 x53 x54) (L_sp_l10Code_0 x53 x54) := by
  unfold Lm_sp_l10Code_0 L_sp_l10Code_0
  refine Le.it (fun v => ?_) _ _
  apply mS_sp_l10Code_0
  all_goals assumption
theorem mT_sp_l10Code (x55 : List (Int)) : Le (Tm_sp_l10Code x55).ev (T_sp_l10Code x55).ev := by
  unfold Tm_sp_l10Code T_sp_l10Code
  try dsimp only
  repeat' first
    | with_reducible exact Le.refl _
    | with_reducible exact Le.f _
    | with_reducible refine Le.t ?_ ?_
    | with_reducible refine Le.g ?_
    | with_reducible refine Le.s (fun _ => ?_) (fun _ => ?_)
    | with_reducible refine Le.c ?_ (fun _ => ?_)
    | with_reducible assumption
    | with_reducible apply mL_sp_l10Code_0
    | with_reducible refine Le.bnd ?_
    | with_reducible intro _
theorem mF_sp_l10Code (x56 : List (Int)) : Le (Fm_sp_l10Code x56) (F_sp_l10Code x56) := by
  unfold Fm_sp_l10Code F_sp_l10Code
  apply mT_sp_l10Code
  all_goals assumption
theorem mT_im_between (x57 : Int) (x58 : Int) (x59 : Int) : Le (Tm_im_between x57 x58 x59).ev (T_im_between x57 x58 x59).ev := by
  unfold Tm_im_between T_im_between
  try dsimp only
  repeat' first
    | with_reducible exact Le.refl _
    | with_reducible exact Le.f _
    | with_reducible refine Le.t ?_ ?_
    | with_reducible refine Le.g ?_
    | with_reducible refine Le.s (fun _ => ?_) (fun _ => ?_)
    | with_reducible refine Le.c ?_ (fun _ => ?_)
    | with_reducible assumption
    | with_reducible refine Le.bnd ?_
    | with_reducible intro _
theorem mF_im_between (x60 : Int) (x61 : Int) (x62 : Int) : Le (Fm_im_between x60 x61 x62) (F_im_between x60 x61 x62) := by
  unfold Fm_im_between F_im_between
  apply mT_im_between
  all_goals assumption
theorem mT_im_bag_has (x63 : Int) (x64 : Int) : Le (Tm_im_bag_has x63 x64).ev (T_im_bag_has x63 x64).ev := by
  unfold Tm_im_bag_has T_im_bag_has
  try dsimp only
  repeat' first
    | with_reducible exact Le.refl _
    | with_reducible exact Le.f _
    | with_reducible refine Le.t ?_ ?_
    | with_reducible refine Le.g ?_
    | with_reducible refine Le.s (fun _ => ?_) (fun _ => ?_)
    | with_reducible refine Le.c ?_ (fun _ => ?_)
    | with_reducible assumption
    | with_reducible refine Le.bnd ?_
    | with_reducible intro _
theorem mF_im_bag_has (x65 : Int) (x66 : Int) : Le (Fm_im_bag_has x65 x66) (F_im_bag_has x65 x66) := by
  unfold Fm_im_bag_has F_im_bag_has
  apply mT_im_bag_has
  all_goals assumption
theorem mS_im_bag_list_0 (x67 : Int) (x68 : (Int) × (List (Int))) : Le (Sm_im_bag_list_0 x67 x68).ev (S_im_bag_list_0 x67 x68).ev := by
  unfold Sm_im_bag_list_0 S_im_bag_list_0
  try dsimp only
  repeat' first
    | with_reducible exact Le.refl _
    | with_reducible exact Le.f _
    | with_reducible refine Le.t ?_ ?_
    | with_reducible refine Le.g ?_
    | with_reducible refine Le.s (fun _ => ?_) (fun _ => ?_)
    | with_reducible refine Le.c ?_ (fun _ => ?_)
    | with_reducible assumption
    | with_reducible apply mF_im_bag_has
    | with_reducible refine Le.bnd ?_
    | with_reducible intro _
theorem mL_im_bag_list_0 (x69 : Int) (x70 : (Int) × (List (Int))) : Le (Lm_im_bag_list_0 x69 x70) (L_im_bag_list_0 x69 x70) := by
  unfold Lm_im_bag_list_0 L_im_bag_list_0
  refine Le.it (fun v => ?_) _ _
  apply mS_im_bag_list_0
  all_goals assumption
theorem mT_im_bag_list (x71 : Int) : Le (Tm_im_bag_list x71).ev (T_im_bag_list x71).ev := by
  unfold Tm_im_bag_list T_im_bag_list
  try dsimp only
  repeat' first
    | with_reducible exact Le.refl _
    | with_reducible exact Le.f _
    | with_reducible refine Le.t ?_ ?_
    | with_reducible refine Le.g ?_
    | with_reducible refine Le.s (fun _ => ?_) (fun _ => ?_)
    | with_reducible refine Le.c ?_ (fun _ => ?_)
    | with_reducible assumption
    | with_reducible apply mL_im_bag_list_0
    | with_reducible refine Le.bnd ?_
    | with_reducible intro _
theorem mF_im_bag_list (x72 : Int) : Le (Fm_im_bag_list x72) (F_im_bag_list x72) := by
  unfold Fm_im_bag_list F_im_bag_list
  apply mT_im_bag_list
  all_goals assumption
theorem mT_math_bits_Len64 (x73 : Int) : Le (Tm_math_bits_Len64 x73).ev (T_math_bits_Len64 x73).ev := by
  unfold Tm_math_bits_Len64 T_math_bits_Len64
  try dsimp only
  repeat' first
    | with_reducible exact Le.refl _
    | with_reducible exact Le.f _
    | with_reducible refine Le.t ?_ ?_
    | with_reducible refine Le.g ?_
    | with_reducible refine Le.s (fun _ => ?_) (fun _ => ?_)
    | with_reducible refine Le.c ?_ (fun _ => ?_)
    | with_reducible assumption
    | with_reducible refine Le.bnd ?_
    | with_reducible intro _
theorem mF_math_bits_Len64 (x74 : Int) : Le (Fm_math_bits_Len64 x74) (F_math_bits_Len64 x74) := by
  unfold Fm_math_bits_Len64 F_math_bits_Len64
  apply mT_math_bits_Len64
  all_goals assumption
theorem mT_math_bits_Len (x75 : Int) : Le (Tm_math_bits_Len x75).ev (T_math_bits_Len x75).ev := by
  unfold Tm_math_bits_Len T_math_bits_Len
  try dsimp only
  repeat' first
    | with_reducible exact Le.refl _
    | with_reducible exact Le.f _
    | with_reducible refine Le.t ?_ ?_
    | with_reducible refine Le.g ?_
    | with_reducible refine Le.s (fun _ => ?_) (fun _ => ?_)
    | with_reducible refine Le.c ?_ (fun _ => ?_)
    | with_reducible assumption
    | with_reducible apply mF_math_bits_Len64
    | with_reducible refine Le.bnd ?_
    | with_reducible intro _
theorem mF_math_bits_Len (x76 : Int) : Le (Fm_math_bits_Len x76) (F_math_bits_Len x76) := by
  unfold Fm_math_bits_Len F_math_bits_Len
  apply mT_math_bits_Len
  all_goals assumption
theorem mS_slices_insertionSortCmpFunc_Sint_2 (c77 : (Int)) (c78 : (Int)) (q79 q80 : ((HL [(.slice (.int .i64)), (.slice (.int .i64))] → Option (Int)))) (hq81 : ∀ h, Le (q79 h) (q80 h)) (c82 : Int) (x83 : (Int) × (List (List (Int)))) : Le (Sm_slices_insertionSortCmpFunc_Sint_2 (c77, (c78, (q79, c82))) x83).ev (S_slices_insertionSortCmpFunc_Sint_2 (c77, (c78, (q80, c82))) x83).ev := by
  unfold Sm_slices_insertionSortCmpFunc_Sint_2 S_slices_insertionSortCmpFunc_Sint_2
  try dsimp only
  repeat' first
    | with_reducible exact Le.refl _
    | with_reducible exact Le.f _
    | with_reducible refine Le.t ?_ ?_
    | with_reducible refine Le.g ?_
    | with_reducible refine Le.s (fun _ => ?_) (fun _ => ?_)
    | with_reducible refine Le.c ?_ (fun _ => ?_)
    | with_reducible assumption
    | with_reducible apply hq81
    | with_reducible refine Le.bnd ?_
    | with_reducible intro _
theorem mL_slices_insertionSortCmpFunc_Sint_2 (c84 : (Int)) (c85 : (Int)) (q86 q87 : ((HL [(.slice (.int .i64)), (.slice (.int .i64))] → Option (Int)))) (hq88 : ∀ h, Le (q86 h) (q87 h)) (c89 : Int) (x90 : (Int) × (List (List (Int)))) : Le (Lm_slices_insertionSortCmpFunc_Sint_2 (c84, (c85, (q86, c89))) x90) (L_slices_insertionSortCmpFunc_Sint_2 (c84, (c85, (q87, c89))) x90) := by
  unfold Lm_slices_insertionSortCmpFunc_Sint_2 L_slices_insertionSortCmpFunc_Sint_2
  refine Le.it (fun v => ?_) _ _
  apply mS_slices_insertionSortCmpFunc_Sint_2
  all_goals assumption
theorem mS_slices_insertionSortCmpFunc_Sint_0 (c91 : (Int)) (c92 : (Int)) (q93 q94 : HL [(.slice (.int .i64)), (.slice (.int .i64))] → Option (Int)) (hq95 : ∀ h, Le (q93 h) (q94 h)) (x96 : (Int) × (List (List (Int)))) : Le (Sm_slices_insertionSortCmpFunc_Sint_0 (c91, (c92, q93)) x96).ev (S_slices_insertionSortCmpFunc_Sint_0 (c91, (c92, q94)) x96).ev := by
  unfold Sm_slices_insertionSortCmpFunc_Sint_0 S_slices_insertionSortCmpFunc_Sint_0
  try dsimp only
  repeat' first
    | with_reducible exact Le.refl _
    | with_reducible exact Le.f _
    | with_reducible refine Le.t ?_ ?_
    | with_reducible refine Le.g ?_
    | with_reducible refine Le.s (fun _ => ?_) (fun _ => ?_)
    | with_reducible refine Le.c ?_ (fun _ => ?_)
    | with_reducible assumption
    | with_reducible apply hq95
    | with_reducible apply mL_slices_insertionSortCmpFunc_Sint_2
    | with_reducible refine Le.bnd ?_
    | with_reducible intro _
theorem mL_slices_insertionSortCmpFunc_Sint_0 (c97 : (Int)) (c98 : (Int)) (q99 q100 : HL [(.slice (.int .i64)), (.slice (.int .i64))] → Option (Int)) (hq101 : ∀ h, Le (q99 h) (q100 h)) (x102 : (Int) × (List (List (Int)))) : Le (Lm_slices_insertionSortCmpFunc_Sint_0 (c97, (c98, q99)) x102) (L_slices_insertionSortCmpFunc_Sint_0 (c97, (c98, q100)) x102) := by
  unfold Lm_slices_insertionSortCmpFunc_Sint_0 L_slices_insertionSortCmpFunc_Sint_0
  refine Le.it (fun v => ?_) _ _
  apply mS_slices_insertionSortCmpFunc_Sint_0
  all_goals assumption
theorem mT_slices_insertionSortCmpFunc_Sint (x103 : Int) (x104 : Int) (q105 q106 : (HL [(.slice (.int .i64)), (.slice (.int .i64))] → Option (Int))) (hq107 : ∀ h, Le (q105 h) (q106 h)) (x108 : List (List (Int))) : Le (Tm_slices_insertionSortCmpFunc_Sint x103 x104 q105 x108).ev (T_slices_insertionSortCmpFunc_Sint x103 x104 q106 x108).ev := by
  unfold Tm_slices_insertionSortCmpFunc_Sint T_slices_insertionSortCmpFunc_Sint
  try dsimp only
  repeat' first
    | with_reducible exact Le.refl _
    | with_reducible exact Le.f _
    | with_reducible refine Le.t ?_ ?_
    | with_reducible refine Le.g ?_
    | with_reducible refine Le.s (fun _ => ?_) (fun _ => ?_)
    | with_reducible refine Le.c ?_ (fun _ => ?_)
    | with_reducible assumption
    | with_reducible apply hq107
    | with_reducible apply mL_slices_insertionSortCmpFunc_Sint_0
    | with_reducible refine Le.bnd ?_
    | with_reducible intro _
theorem mF_slices_insertionSortCmpFunc_Sint (x109 : Int) (x110 : Int) (q111 q112 : (HL [(.slice (.int .i64)), (.slice (.int .i64))] → Option (Int))) (hq113 : ∀ h, Le (q111 h) (q112 h)) (x114 : List (List (Int))) : Le (Fm_slices_insertionSortCmpFunc_Sint x109 x110 q111 x114) (F_slices_insertionSortCmpFunc_Sint x109 x110 q112 x114) := by
  unfold Fm_slices_insertionSortCmpFunc_Sint F_slices_insertionSortCmpFunc_Sint
  apply mT_slices_insertionSortCmpFunc_Sint
  all_goals assumption
theorem mT_slices_order2CmpFunc_Sint (x115 : List (List (Int))) (x116 : Int) (x117 : Int) (q118 q119 : (HL [(.slice (.int .i64)), (.slice (.int .i64))] → Option (Int))) (hq120 : ∀ h, Le (q118 h) (q119 h)) (x121 : Int) : Le (Tm_slices_order2CmpFunc_Sint x115 x116 x117 q118 x121).ev (T_slices_order2CmpFunc_Sint x115 x116 x117 q119 x121).ev := by
  unfold Tm_slices_order2CmpFunc_Sint T_slices_order2CmpFunc_Sint
  try dsimp only
  repeat' first
    | with_reducible exact Le.refl _
    | with_reducible exact Le.f _
    | with_reducible refine Le.t ?_ ?_
    | with_reducible refine Le.g ?_
    | with_reducible refine Le.s (fun _ => ?_) (fun _ => ?_)
    | with_reducible refine Le.c ?_ (fun _ => ?_)
    | with_reducible assumption
    | with_reducible apply hq120
    | with_reducible refine Le.bnd ?_
    | with_reducible intro _
theorem mF_slices_order2CmpFunc_Sint (x122 : List (List (Int))) (x123 : Int) (x124 : Int) (q125 q126 : (HL [(.slice (.int .i64)), (.slice (.int .i64))] → Option (Int))) (hq127 : ∀ h, Le (q125 h) (q126 h)) (x128 : Int) : Le (Fm_slices_order2CmpFunc_Sint x122 x123 x124 q125 x128) (F_slices_order2CmpFunc_Sint x122 x123 x124 q126 x128) := by
  unfold Fm_slices_order2CmpFunc_Sint F_slices_order2CmpFunc_Sint
  apply mT_slices_order2CmpFunc_Sint
  all_goals assumption
theorem mT_slices_medianCmpFunc_Sint (x129 : List (List (Int))) (x130 : Int) (x131 : Int) (x132 : Int) (q133 q134 : (HL [(.slice (.int .i64)), (.slice (.int .i64))] → Option (Int))) (hq135 : ∀ h, Le (q133 h) (q134 h)) (x136 : Int) : Le (Tm_slices_medianCmpFunc_Sint x129 x130 x131 x132 q133 x136).ev (T_slices_medianCmpFunc_Sint x129 x130 x131 x132 q134 x136).ev := by
  unfold Tm_slices_medianCmpFunc_Sint T_slices_medianCmpFunc_Sint
  try dsimp only
  repeat' first
    | with_reducible exact Le.refl _
    | with_reducible exact Le.f _
    | with_reducible refine Le.t ?_ ?_
    | with_reducible refine Le.g ?_
    | with_reducible refine Le.s (fun _ => ?_) (fun _ => ?_)
    | with_reducible refine Le.c ?_ (fun _ => ?_)
    | with_reducible assumption
    | with_reducible apply hq135
    | with_reducible apply mF_slices_order2CmpFunc_Sint
    | with_reducible refine Le.bnd ?_
    | with_reducible intro _
theorem mF_slices_medianCmpFunc_Sint (x137 : List (List (Int))) (x138 : Int) (x139 : Int) (x140 : Int) (q141 q142 : (HL [(.slice (.int .i64)), (.slice (.int .i64))] → Option (Int))) (hq143 : ∀ h, Le (q141 h) (q142 h)) (x144 : Int) : Le (Fm_slices_medianCmpFunc_Sint x137 x138 x139 x140 q141 x144) (F_slices_medianCmpFunc_Sint x137 x138 x139 x140 q142 x144) := by
  unfold Fm_slices_medianCmpFunc_Sint F_slices_medianCmpFunc_Sint
  apply mT_slices_medianCmpFunc_Sint
  all_goals assumption
theorem mT_slices_medianAdjacentCmpFunc_Sint (x145 : List (List (Int))) (x146 : Int) (q147 q148 : (HL [(.slice (.int .i64)), (.slice (.int .i64))] → Option (Int))) (hq149 : ∀ h, Le (q147 h) (q148 h)) (x150 : Int) : Le (Tm_slices_medianAdjacentCmpFunc_Sint x145 x146 q147 x150).ev (T_slices_medianAdjacentCmpFunc_Sint x145 x146 q148 x150).ev := by
  unfold Tm_slices_medianAdjacentCmpFunc_Sint T_slices_medianAdjacentCmpFunc_Sint
  try dsimp only
  repeat' first
    | with_reducible exact Le.refl _
    | with_reducible exact Le.f _
    | with_reducible refine Le.t ?_ ?_
    | with_reducible refine Le.g ?_
    | with_reducible refine Le.s (fun _ => ?_) (fun _ => ?_)
    | with_reducible refine Le.c ?_ (fun _ => ?_)
    | with_reducible assumption
    | with_reducible apply hq149
    | with_reducible apply mF_slices_medianCmpFunc_Sint
    | with_reducible refine Le.bnd ?_
    | with_reducible intro _
theorem mF_slices_medianAdjacentCmpFunc_Sint (x151 : List (List (Int))) (x152 : Int) (q153 q154 : (HL [(.slice (.int .i64)), (.slice (.int .i64))] → Option (Int))) (hq155 : ∀ h, Le (q153 h) (q154 h)) (x156 : Int) : Le (Fm_slices_medianAdjacentCmpFunc_Sint x151 x152 q153 x156) (F_slices_medianAdjacentCmpFunc_Sint x151 x152 q154 x156) := by
  unfold Fm_slices_medianAdjacentCmpFunc_Sint F_slices_medianAdjacentCmpFunc_Sint
  apply mT_slices_medianAdjacentCmpFunc_Sint
  all_goals assumption
theorem mT_slices_choosePivotCmpFunc_Sint (x157 : List (List (Int))) (x158 : Int) (x159 : Int) (q160 q161 : (HL [(.slice (.int .i64)), (.slice (.int .i64))] → Option (Int))) (hq162 : ∀ h, Le (q160 h) (q161 h)) : Le (Tm_slices_choosePivotCmpFunc_Sint x157 x158 x159 q160).ev (T_slices_choosePivotCmpFunc_Sint x157 x158 x159 q161).ev := by
  unfold Tm_slices_choosePivotCmpFunc_Sint T_slices_choosePivotCmpFunc_Sint
  try dsimp only
  repeat' first
    | with_reducible exact Le.refl _
    | with_reducible exact Le.f _
    | with_reducible refine Le.t ?_ ?_
    | with_reducible refine Le.g ?_
    | with_reducible refine Le.s (fun _ => ?_) (fun _ => ?_)
    | with_reducible refine Le.c ?_ (fun _ => ?_)
    | with_reducible assumption
    | with_reducible apply hq162
    | with_reducible apply mF_slices_medianAdjacentCmpFunc_Sint
    | with_reducible apply mF_slices_medianCmpFunc_Sint
    | with_reducible refine Le.bnd ?_
    | with_reducible intro _
theorem mF_slices_choosePivotCmpFunc_Sint (x163 : List (List (Int))) (x164 : Int) (x165 : Int) (q166 q167 : (HL [(.slice (.int .i64)), (.slice (.int .i64))] → Option (Int))) (hq168 : ∀ h, Le (q166 h) (q167 h)) : Le (Fm_slices_choosePivotCmpFunc_Sint x163 x164 x165 q166) (F_slices_choosePivotCmpFunc_Sint x163 x164 x165 q167) := by
  unfold Fm_slices_choosePivotCmpFunc_Sint F_slices_choosePivotCmpFunc_Sint
  apply mT_slices_choosePivotCmpFunc_Sint
  all_goals assumption
theorem mS_slices_partitionCmpFunc_Sint_0 (c169 : (Int)) (q170 q171 : ((HL [(.slice (.int .i64)), (.slice (.int .i64))] → Option (Int)))) (hq172 : ∀ h, Le (q170 h) (q171 h)) (c173 : (Int)) (c174 : List (List (Int))) (x175 : Int) : Le (Sm_slices_partitionCmpFunc_Sint_0 (c169, (q170, (c173, c174))) x175).ev (S_slices_partitionCmpFunc_Sint_0 (c169, (q171, (c173, c174))) x175).ev := by
  unfold Sm_slices_partitionCmpFunc_Sint_0 S_slices_partitionCmpFunc_Sint_0
  try dsimp only
  repeat' first
    | with_reducible exact Le.refl _
    | with_reducible exact Le.f _
    | with_reducible refine Le.t ?_ ?_
    | with_reducible refine Le.g ?_
    | with_reducible refine Le.s (fun _ => ?_) (fun _ => ?_)
    | with_reducible refine Le.c ?_ (fun _ => ?_)
    | with_reducible assumption
    | with_reducible apply hq172
    | with_reducible refine Le.bnd ?_
    | with_reducible intro _
theorem mL_slices_partitionCmpFunc_Sint_0 (c176 : (Int)) (q177 q178 : ((HL [(.slice (.int .i64)), (.slice (.int .i64))] → Option (Int)))) (hq179 : ∀ h, Le (q177 h) (q178 h)) (c180 : (Int)) (c181 : List (List (Int))) (x182 : Int) : Le (Lm_slices_partitionCmpFunc_Sint_0 (c176, (q177, (c180, c181))) x182) (L_slices_partitionCmpFunc_Sint_0 (c176, (q178, (c180, c181))) x182) := by
  unfold Lm_slices_partitionCmpFunc_Sint_0 L_slices_partitionCmpFunc_Sint_0
  refine Le.it (fun v => ?_) _ _
  apply mS_slices_partitionCmpFunc_Sint_0
  all_goals assumption
theorem mS_slices_partitionCmpFunc_Sint_2 (c183 : (Int)) (q184 q185 : ((HL [(.slice (.int .i64)), (.slice (.int .i64))] → Option (Int)))) (hq186 : ∀ h, Le (q184 h) (q185 h)) (c187 : (Int)) (c188 : List (List (Int))) (x189 : Int) : Le (Sm_slices_partitionCmpFunc_Sint_2 (c183, (q184, (c187, c188))) x189).ev (S_slices_partitionCmpFunc_Sint_2 (c183, (q185, (c187, c188))) x189).ev := by
  unfold Sm_slices_partitionCmpFunc_Sint_2 S_slices_partitionCmpFunc_Sint_2
  try dsimp only
  repeat' first
    | with_reducible exact Le.refl _
    | with_reducible exact Le.f _
    | with_reducible refine Le.t ?_ ?_
    | with_reducible refine Le.g ?_
    | with_reducible refine Le.s (fun _ => ?_) (fun _ => ?_)
    | with_reducible refine Le.c ?_ (fun _ => ?_)
    | with_reducible assumption
    | with_reducible apply hq186
    | with_reducible refine Le.bnd ?_
    | with_reducible intro _
theorem mL_slices_partitionCmpFunc_Sint_2 (c190 : (Int)) (q191 q192 : ((HL [(.slice (.int .i64)), (.slice (.int .i64))] → Option (Int)))) (hq193 : ∀ h, Le (q191 h) (q192 h)) (c194 : (Int)) (c195 : List (List (Int))) (x196 : Int) : Le (Lm_slices_partitionCmpFunc_Sint_2 (c190, (q191, (c194, c195))) x196) (L_slices_partitionCmpFunc_Sint_2 (c190, (q192, (c194, c195))) x196) := by
  unfold Lm_slices_partitionCmpFunc_Sint_2 L_slices_partitionCmpFunc_Sint_2
  refine Le.it (fun v => ?_) _ _
  apply mS_slices_partitionCmpFunc_Sint_2
  all_goals assumption
theorem mS_slices_partitionCmpFunc_Sint_6 (c197 : (Int)) (q198 q199 : ((HL [(.slice (.int .i64)), (.slice (.int .i64))] → Option (Int)))) (hq200 : ∀ h, Le (q198 h) (q199 h)) (c201 : (Int)) (c202 : List (List (Int))) (x203 : Int) : Le (Sm_slices_partitionCmpFunc_Sint_6 (c197, (q198, (c201, c202))) x203).ev (S_slices_partitionCmpFunc_Sint_6 (c197, (q199, (c201, c202))) x203).ev := by
  unfold Sm_slices_partitionCmpFunc_Sint_6 S_slices_partitionCmpFunc_Sint_6
  try dsimp only
  repeat' first
    | with_reducible exact Le.refl _
    | with_reducible exact Le.f _
    | with_reducible refine Le.t ?_ ?_
    | with_reducible refine Le.g ?_
    | with_reducible refine Le.s (fun _ => ?_) (fun _ => ?_)
    | with_reducible refine Le.c ?_ (fun _ => ?_)
    | with_reducible assumption
    | with_reducible apply hq200
    | with_reducible refine Le.bnd ?_
    | with_reducible intro _
theorem mL_slices_partitionCmpFunc_Sint_6 (c204 : (Int)) (q205 q206 : ((HL [(.slice (.int .i64)), (.slice (.int .i64))] → Option (Int)))) (hq207 : ∀ h, Le (q205 h) (q206 h)) (c208 : (Int)) (c209 : List (List (Int))) (x210 : Int) : Le (Lm_slices_partitionCmpFunc_Sint_6 (c204, (q205, (c208, c209))) x210) (L_slices_partitionCmpFunc_Sint_6 (c204, (q206, (c208, c209))) x210) := by
  unfold Lm_slices_partitionCmpFunc_Sint_6 L_slices_partitionCmpFunc_Sint_6
  refine Le.it (fun v => ?_) _ _
  apply mS_slices_partitionCmpFunc_Sint_6
  all_goals assumption
theorem mS_slices_partitionCmpFunc_Sint_8 (c211 : (Int)) (q212 q213 : ((HL [(.slice (.int .i64)), (.slice (.int .i64))] → Option (Int)))) (hq214 : ∀ h, Le (q212 h) (q213 h)) (c215 : (Int)) (c216 : List (List (Int))) (x217 : Int) : Le (Sm_slices_partitionCmpFunc_Sint_8 (c211, (q212, (c215, c216))) x217).ev (S_slices_partitionCmpFunc_Sint_8 (c211, (q213, (c215, c216))) x217).ev := by
  unfold Sm_slices_partitionCmpFunc_Sint_8 S_slices_partitionCmpFunc_Sint_8
  try dsimp only
  repeat' first
    | with_reducible exact Le.refl _
    | with_reducible exact Le.f _
    | with_reducible refine Le.t ?_ ?_
    | with_reducible refine Le.g ?_
    | with_reducible refine Le.s (fun _ => ?_) (fun _ => ?_)
    | with_reducible refine Le.c ?_ (fun _ => ?_)
    | with_reducible assumption
    | with_reducible apply hq214
    | with_reducible refine Le.bnd ?_
    | with_reducible intro _
theorem mL_slices_partitionCmpFunc_Sint_8 (c218 : (Int)) (q219 q220 : ((HL [(.slice (.int .i64)), (.slice (.int .i64))] → Option (Int)))) (hq221 : ∀ h, Le (q219 h) (q220 h)) (c222 : (Int)) (c223 : List (List (Int))) (x224 : Int) : Le (Lm_slices_partitionCmpFunc_Sint_8 (c218, (q219, (c222, c223))) x224) (L_slices_partitionCmpFunc_Sint_8 (c218, (q220, (c222, c223))) x224) := by
  unfold Lm_slices_partitionCmpFunc_Sint_8 L_slices_partitionCmpFunc_Sint_8
  refine Le.it (fun v => ?_) _ _
  apply mS_slices_partitionCmpFunc_Sint_8
  all_goals assumption
theorem mS_slices_partitionCmpFunc_Sint_4 (c225 : (Int)) (q226 q227 : HL [(.slice (.int .i64)), (.slice (.int .i64))] → Option (Int)) (hq228 : ∀ h, Le (q226 h) (q227 h)) (x229 : (Int) × ((Int) × (List (List (Int))))) : Le (Sm_slices_partitionCmpFunc_Sint_4 (c225, q226) x229).ev (S_slices_partitionCmpFunc_Sint_4 (c225, q227) x229).ev := by
  unfold Sm_slices_partitionCmpFunc_Sint_4 S_slices_partitionCmpFunc_Sint_4
  try dsimp only
  repeat' first
    | with_reducible exact Le.refl _
    | with_reducible exact Le.f _
    | with_reducible refine Le.t ?_ ?_
    | with_reducible refine Le.g ?_
    | with_reducible refine Le.s (fun _ => ?_) (fun _ => ?_)
    | with_reducible refine Le.c ?_ (fun _ => ?_)
    | with_reducible assumption
    | with_reducible apply hq228
    | with_reducible apply mL_slices_partitionCmpFunc_Sint_6
    | with_reducible apply mL_slices_partitionCmpFunc_Sint_8
    | with_reducible refine Le.bnd ?_
    | with_reducible intro _
theorem mL_slices_partitionCmpFunc_Sint_4 (c230 : (Int)) (q231 q232 : HL [(.slice (.int .i64)), (.slice (.int .i64))] → Option (Int)) (hq233 : ∀ h, Le (q231 h) (q232 h)) (x234 : (Int) × ((Int) × (List (List (Int))))) : Le (Lm_slices_partitionCmpFunc_Sint_4 (c230, q231) x234) (L_slices_partitionCmpFunc_Sint_4 (c230, q232) x234) := by
  unfold Lm_slices_partitionCmpFunc_Sint_4 L_slices_partitionCmpFunc_Sint_4
  refine Le.it (fun v => ?_) _ _
  apply mS_slices_partitionCmpFunc_Sint_4
  all_goals assumption
theorem mT_slices_partitionCmpFunc_Sint (x235 : Int) (x236 : Int) (x237 : Int) (q238 q239 : (HL [(.slice (.int .i64)), (.slice (.int .i64))] → Option (Int))) (hq240 : ∀ h, Le (q238 h) (q239 h)) (x241 : List (List (Int))) : Le (Tm_slices_partitionCmpFunc_Sint x235 x236 x237 q238 x241).ev (T_slices_partitionCmpFunc_Sint x235 x236 x237 q239 x241).ev := by
  unfold Tm_slices_partitionCmpFunc_Sint T_slices_partitionCmpFunc_Sint
  try dsimp only
  repeat' first
    | with_reducible exact Le.refl _
    | with_reducible exact Le.f _
    | with_reducible refine Le.t ?_ ?_
    | with_reducible refine Le.g ?_
    | with_reducible refine Le.s (fun _ => ?_) (fun _ => ?_)
    | with_reducible refine Le.c ?_ (fun _ => ?_)
    | with_reducible assumption
    | with_reducible apply hq240
    | with_reducible apply mL_slices_partitionCmpFunc_Sint_0
    | with_reducible apply mL_slices_partitionCmpFunc_Sint_2
    | with_reducible apply mL_slices_partitionCmpFunc_Sint_4
    | with_reducible refine Le.bnd ?_
    | with_reducible intro _
theorem mF_slices_partitionCmpFunc_Sint (x242 : Int) (x243 : Int) (x244 : Int) (q245 q246 : (HL [(.slice (.int .i64)), (.slice (.int .i64))] → Option (Int))) (hq247 : ∀ h, Le (q245 h) (q246 h)) (x248 : List (List (Int))) : Le (Fm_slices_partitionCmpFunc_Sint x242 x243 x244 q245 x248) (F_slices_partitionCmpFunc_Sint x242 x243 x244 q246 x248) := by
  unfold Fm_slices_partitionCmpFunc_Sint F_slices_partitionCmpFunc_Sint
  apply mT_slices_partitionCmpFunc_Sint
  all_goals assumption
theorem mS_slices_pdqsortCmpFunc_Sint_0 (rec249 rec250 : (Int) → (Int) → (Int) → ((HL [(.slice (.int .i64)), (.slice (.int .i64))] → Option (Int))) → (List (List (Int))) → Option (List (List (Int)))) (hr251 : ∀ (x252 : (Int)) (x253 : (Int)) (x254 : (Int)) (q255 q256 : ((HL [(.slice (.int .i64)), (.slice (.int .i64))] → Option (Int)))) (hq257 : ∀ h, Le (q255 h) (q256 h)) (x258 : (List (List (Int)))), Le (rec249 x252 x253 x254 q255 x258) (rec250 x252 x253 x254 q256 x258)) (c259 : (Int)) (q260 q261 : HL [(.slice (.int .i64)), (.slice (.int .i64))] → Option (Int)) (hq262 : ∀ h, Le (q260 h) (q261 h)) (x263 : (Int) × ((Int) × ((Bool) × ((Bool) × (List (List (Int))))))) : Le (Sm_slices_pdqsortCmpFunc_Sint_0 rec249 (c259, q260) x263).ev (S_slices_pdqsortCmpFunc_Sint_0 rec250 (c259, q261) x263).ev := by
  unfold Sm_slices_pdqsortCmpFunc_Sint_0 S_slices_pdqsortCmpFunc_Sint_0
  try dsimp only
  repeat' first
    | with_reducible exact Le.refl _
    | with_reducible exact Le.f _
    | with_reducible refine Le.t ?_ ?_
    | with_reducible refine Le.g ?_
    | with_reducible refine Le.s (fun _ => ?_) (fun _ => ?_)
    | with_reducible refine Le.c ?_ (fun _ => ?_)
    | with_reducible assumption
    | with_reducible apply hr251
    | with_reducible apply hq262
    | with_reducible apply mF_slices_insertionSortCmpFunc_Sint
    | with_reducible apply mF_slices_choosePivotCmpFunc_Sint
    | with_reducible apply mF_slices_partitionCmpFunc_Sint
    | with_reducible refine Le.bnd ?_
    | with_reducible intro _
theorem mL_slices_pdqsortCmpFunc_Sint_0 (rec264 rec265 : (Int) → (Int) → (Int) → ((HL [(.slice (.int .i64)), (.slice (.int .i64))] → Option (Int))) → (List (List (Int))) → Option (List (List (Int)))) (hr266 : ∀ (x267 : (Int)) (x268 : (Int)) (x269 : (Int)) (q270 q271 : ((HL [(.slice (.int .i64)), (.slice (.int .i64))] → Option (Int)))) (hq272 : ∀ h, Le (q270 h) (q271 h)) (x273 : (List (List (Int)))), Le (rec264 x267 x268 x269 q270 x273) (rec265 x267 x268 x269 q271 x273)) (c274 : (Int)) (q275 q276 : HL [(.slice (.int .i64)), (.slice (.int .i64))] → Option (Int)) (hq277 : ∀ h, Le (q275 h) (q276 h)) (x278 : (Int) × ((Int) × ((Bool) × ((Bool) × (List (List (Int))))))) : Le (Lm_slices_pdqsortCmpFunc_Sint_0 rec264 (c274, q275) x278) (L_slices_pdqsortCmpFunc_Sint_0 rec265 (c274, q276) x278) := by
  unfold Lm_slices_pdqsortCmpFunc_Sint_0 L_slices_pdqsortCmpFunc_Sint_0
  refine Le.it (fun v => ?_) _ _
  apply mS_slices_pdqsortCmpFunc_Sint_0
  all_goals assumption
theorem mT_slices_pdqsortCmpFunc_Sint (rec279 rec280 : (Int) → (Int) → (Int) → ((HL [(.slice (.int .i64)), (.slice (.int .i64))] → Option (Int))) → (List (List (Int))) → Option (List (List (Int)))) (hr281 : ∀ (x282 : (Int)) (x283 : (Int)) (x284 : (Int)) (q285 q286 : ((HL [(.slice (.int .i64)), (.slice (.int .i64))] → Option (Int)))) (hq287 : ∀ h, Le (q285 h) (q286 h)) (x288 : (List (List (Int)))), Le (rec279 x282 x283 x284 q285 x288) (rec280 x282 x283 x284 q286 x288)) (x289 : Int) (x290 : Int) (x291 : Int) (q292 q293 : (HL [(.slice (.int .i64)), (.slice (.int .i64))] → Option (Int))) (hq294 : ∀ h, Le (q292 h) (q293 h)) (x295 : List (List (Int))) : Le (Tm_slices_pdqsortCmpFunc_Sint rec279 x289 x290 x291 q292 x295).ev (T_slices_pdqsortCmpFunc_Sint rec280 x289 x290 x291 q293 x295).ev := by
  unfold Tm_slices_pdqsortCmpFunc_Sint T_slices_pdqsortCmpFunc_Sint
  try dsimp only
  repeat' first
    | with_reducible exact Le.refl _
    | with_reducible exact Le.f _
    | with_reducible refine Le.t ?_ ?_
    | with_reducible refine Le.g ?_
    | with_reducible refine Le.s (fun _ => ?_) (fun _ => ?_)
    | with_reducible refine Le.c ?_ (fun _ => ?_)
    | with_reducible assumption
    | with_reducible apply hr281
    | with_reducible apply hq294
    | with_reducible apply mL_slices_pdqsortCmpFunc_Sint_0
    | with_reducible refine Le.bnd ?_
    | with_reducible intro _
theorem mF_slices_pdqsortCmpFunc_Sint : ∀ (n : Nat) (x296 : (Int)) (x297 : (Int)) (x298 : (Int)) (q299 q300 : ((HL [(.slice (.int .i64)), (.slice (.int .i64))] → Option (Int)))) (hq301 : ∀ h, Le (q299 h) (q300 h)) (x302 : (List (List (Int)))), Le (Fm_slices_pdqsortCmpFunc_Sint n x296 x297 x298 q299 x302) (F_slices_pdqsortCmpFunc_Sint n x296 x297 x298 q300 x302)
  | 0 => by intros; exact Le.none _
  | n + 1 => by
    intros
    unfold Fm_slices_pdqsortCmpFunc_Sint F_slices_pdqsortCmpFunc_Sint
    apply mT_slices_pdqsortCmpFunc_Sint
    · exact mF_slices_pdqsortCmpFunc_Sint n
    all_goals assumption
theorem mT_slices_SortFunc_SSint_Sint (q303 q304 : (HL [(.slice (.int .i64)), (.slice (.int .i64))] → Option (Int))) (hq305 : ∀ h, Le (q303 h) (q304 h)) (x306 : List (List (Int))) : Le (Tm_slices_SortFunc_SSint_Sint q303 x306).ev (T_slices_SortFunc_SSint_Sint q304 x306).ev := by
  unfold Tm_slices_SortFunc_SSint_Sint T_slices_SortFunc_SSint_Sint
  try dsimp only
  repeat' first
    | with_reducible exact Le.refl _
    | with_reducible exact Le.f _
    | with_reducible refine Le.t ?_ ?_
    | with_reducible refine Le.g ?_
    | with_reducible refine Le.s (fun _ => ?_) (fun _ => ?_)
    | with_reducible refine Le.c ?_ (fun _ => ?_)
    | with_reducible assumption
    | with_reducible apply hq305
    | with_reducible apply mF_math_bits_Len
    | with_reducible apply mF_slices_pdqsortCmpFunc_Sint
    | with_reducible refine Le.bnd ?_
    | with_reducible intro _
theorem mF_slices_SortFunc_SSint_Sint (q307 q308 : (HL [(.slice (.int .i64)), (.slice (.int .i64))] → Option (Int))) (hq309 : ∀ h, Le (q307 h) (q308 h)) (x310 : List (List (Int))) : Le (Fm_slices_SortFunc_SSint_Sint q307 x310) (F_slices_SortFunc_SSint_Sint q308 x310) := by
  unfold Fm_slices_SortFunc_SSint_Sint F_slices_SortFunc_SSint_Sint
  apply mT_slices_SortFunc_SSint_Sint
  all_goals assumption
theorem mT_cmp_isNaN_int (x311 : Int) : Le (Tm_cmp_isNaN_int x311).ev (T_cmp_isNaN_int x311).ev := by
  unfold Tm_cmp_isNaN_int T_cmp_isNaN_int
  try dsimp only
  repeat' first
    | with_reducible exact Le.refl _
    | with_reducible exact Le.f _
    | with_reducible refine Le.t ?_ ?_
    | with_reducible refine Le.g ?_
    | with_reducible refine Le.s (fun _ => ?_) (fun _ => ?_)
    | with_reducible refine Le.c ?_ (fun _ => ?_)
    | with_reducible assumption
    | with_reducible refine Le.bnd ?_
    | with_reducible intro _
theorem mF_cmp_isNaN_int (x312 : Int) : Le (Fm_cmp_isNaN_int x312) (F_cmp_isNaN_int x312) := by
  unfold Fm_cmp_isNaN_int F_cmp_isNaN_int
  apply mT_cmp_isNaN_int
  all_goals assumption
theorem mT_cmp_Compare_int (x313 : Int) (x314 : Int) : Le (Tm_cmp_Compare_int x313 x314).ev (T_cmp_Compare_int x313 x314).ev := by
  unfold Tm_cmp_Compare_int T_cmp_Compare_int
  try dsimp only
  repeat' first
    | with_reducible exact Le.refl _
    | with_reducible exact Le.f _
    | with_reducible refine Le.t ?_ ?_
    | with_reducible refine Le.g ?_
    | with_reducible refine Le.s (fun _ => ?_) (fun _ => ?_)
    | with_reducible refine Le.c ?_ (fun _ => ?_)
    | with_reducible assumption
    | with_reducible apply mF_cmp_isNaN_int
    | with_reducible refine Le.bnd ?_
    | with_reducible intro _
theorem mF_cmp_Compare_int (x315 : Int) (x316 : Int) : Le (Fm_cmp_Compare_int x315 x316) (F_cmp_Compare_int x315 x316) := by
  unfold Fm_cmp_Compare_int F_cmp_Compare_int
  apply mT_cmp_Compare_int
  all_goals assumption
theorem mS_slices_Compare_Sint_int_0 (x317 : (List (Int)) × ((List (Int)) × ((List (Int)) × (Int)))) (x318 : Int) : Le (Sm_slices_Compare_Sint_int_0 x317 x318).ev (S_slices_Compare_Sint_int_0 x317 x318).ev := by
  unfold Sm_slices_Compare_Sint_int_0 S_slices_Compare_Sint_int_0
  try dsimp only
  repeat' first
    | with_reducible exact Le.refl _
    | with_reducible exact Le.f _
    | with_reducible refine Le.t ?_ ?_
    | with_reducible refine Le.g ?_
    | with_reducible refine Le.s (fun _ => ?_) (fun _ => ?_)
    | with_reducible refine Le.c ?_ (fun _ => ?_)
    | with_reducible assumption
    | with_reducible apply mF_cmp_Compare_int
    | with_reducible refine Le.bnd ?_
    | with_reducible intro _
theorem mL_slices_Compare_Sint_int_0 (x319 : (List (Int)) × ((List (Int)) × ((List (Int)) × (Int)))) (x320 : Int) : Le (Lm_slices_Compare_Sint_int_0 x319 x320) (L_slices_Compare_Sint_int_0 x319 x320) := by
  unfold Lm_slices_Compare_Sint_int_0 L_slices_Compare_Sint_int_0
  refine Le.it (fun v => ?_) _ _
  apply mS_slices_Compare_Sint_int_0
  all_goals assumption
theorem mT_slices_Compare_Sint_int (x321 : List (Int)) (x322 : List (Int)) : Le (Tm_slices_Compare_Sint_int x321 x322).ev (T_slices_Compare_Sint_int x321 x322).ev := by
  unfold Tm_slices_Compare_Sint_int T_slices_Compare_Sint_int
  try dsimp only
  repeat' first
    | with_reducible exact Le.refl _
    | with_reducible exact Le.f _
    | with_reducible refine Le.t ?_ ?_
    | with_reducible refine Le.g ?_
    | with_reducible refine Le.s (fun _ => ?_) (fun _ => ?_)
    | with_reducible refine Le.c ?_ (fun _ => ?_)
    | with_reducible assumption
    | with_reducible apply mL_slices_Compare_Sint_int_0
    | with_reducible refine Le.bnd ?_
    | with_reducible intro _
theorem mF_slices_Compare_Sint_int (x323 : List (Int)) (x324 : List (Int)) : Le (Fm_slices_Compare_Sint_int x323 x324) (F_slices_Compare_Sint_int x323 x324) := by
  unfold Fm_slices_Compare_Sint_int F_slices_Compare_Sint_int
  apply mT_slices_Compare_Sint_int
  all_goals assumption
theorem mS_cmp_Or_int_0 (x325 : (Int) × ((List (Int)) × (Int))) (x326 : Int) : Le (Sm_cmp_Or_int_0 x325 x326).ev (S_cmp_Or_int_0 x325 x326).ev := by
  unfold Sm_cmp_Or_int_0 S_cmp_Or_int_0
  try dsimp only
  repeat' first
    | with_reducible exact Le.refl _
    | with_reducible exact Le.f _
    | with_reducible refine Le.t ?_ ?_
    | with_reducible refine Le.g ?_
    | with_reducible refine Le.s (fun _ => ?_) (fun _ => ?_)
    | with_reducible refine Le.c ?_ (fun _ => ?_)
    | with_reducible assumption
    | with_reducible refine Le.bnd ?_
    | with_reducible intro _
theorem mL_cmp_Or_int_0 (x327 : (Int) × ((List (Int)) × (Int))) (x328 : Int) : Le (Lm_cmp_Or_int_0 x327 x328) (L_cmp_Or_int_0 x327 x328) := by
  unfold Lm_cmp_Or_int_0 L_cmp_Or_int_0
  refine Le.it (fun v => ?_) _ _
  apply mS_cmp_Or_int_0
  all_goals assumption
theorem mT_cmp_Or_int (x329 : List (Int)) : Le (Tm_cmp_Or_int x329).ev (T_cmp_Or_int x329).ev := by
  unfold Tm_cmp_Or_int T_cmp_Or_int
  try dsimp only
  repeat' first
    | with_reducible exact Le.refl _
    | with_reducible exact Le.f _
    | with_reducible refine Le.t ?_ ?_
    | with_reducible refine Le.g ?_
    | with_reducible refine Le.s (fun _ => ?_) (fun _ => ?_)
    | with_reducible refine Le.c ?_ (fun _ => ?_)
    | with_reducible assumption
    | with_reducible apply mL_cmp_Or_int_0
    | with_reducible refine Le.bnd ?_
    | with_reducible intro _
theorem mF_cmp_Or_int (x330 : List (Int)) : Le (Fm_cmp_Or_int x330) (F_cmp_Or_int x330) := by
  unfold Fm_cmp_Or_int F_cmp_Or_int
  apply mT_cmp_Or_int
  all_goals assumption
theorem mT_im_compareSets (x331 : List (Int)) (x332 : List (Int)) : Le (Tm_im_compareSets x331 x332).ev (T_im_compareSets x331 x332).ev := by
  unfold Tm_im_compareSets T_im_compareSets
  try dsimp only
  repeat' first
    | with_reducible exact Le.refl _
    | with_reducible exact Le.f _
    | with_reducible refine Le.t ?_ ?_
    | with_reducible refine Le.g ?_
    | with_reducible refine Le.s (fun _ => ?_) (fun _ => ?_)
    | with_reducible refine Le.c ?_ (fun _ => ?_)
    | with_reducible assumption
    | with_reducible apply mF_cmp_Compare_int
    | with_reducible apply mF_slices_Compare_Sint_int
    | with_reducible apply mF_cmp_Or_int
    | with_reducible refine Le.bnd ?_
    | with_reducible intro _
theorem mF_im_compareSets (x333 : List (Int)) (x334 : List (Int)) : Le (Fm_im_compareSets x333 x334) (F_im_compareSets x333 x334) := by
  unfold Fm_im_compareSets F_im_compareSets
  apply mT_im_compareSets
  all_goals assumption
theorem mS_im_sets_0 (x335 : Int) (x336 : (Int) × (List (List (Int)))) : Le (Sm_im_sets_0 x335 x336).ev (S_im_sets_0 x335 x336).ev := by
  unfold Sm_im_sets_0 S_im_sets_0
  try dsimp only
  repeat' first
    | with_reducible exact Le.refl _
    | with_reducible exact Le.f _
    | with_reducible refine Le.t ?_ ?_
    | with_reducible refine Le.g ?_
    | with_reducible refine Le.s (fun _ => ?_) (fun _ => ?_)
    | with_reducible refine Le.c ?_ (fun _ => ?_)
    | with_reducible assumption
    | with_reducible apply mF_im_bag_list
    | with_reducible refine Le.bnd ?_
    | with_reducible intro _
theorem mL_im_sets_0 (x337 : Int) (x338 : (Int) × (List (List (Int)))) : Le (Lm_im_sets_0 x337 x338) (L_im_sets_0 x337 x338) := by
  unfold Lm_im_sets_0 L_im_sets_0
  refine Le.it (fun v => ?_) _ _
  apply mS_im_sets_0
  all_goals assumption
theorem mT_im_sets (x339 : Int) : Le (Tm_im_sets x339).ev (T_im_sets x339).ev := by
  unfold Tm_im_sets T_im_sets
  try dsimp only
  repeat' first
    | with_reducible exact Le.refl _
    | with_reducible exact Le.f _
    | with_reducible refine Le.t ?_ ?_
    | with_reducible refine Le.g ?_
    | with_reducible refine Le.s (fun _ => ?_) (fun _ => ?_)
    | with_reducible refine Le.c ?_ (fun _ => ?_)
    | with_reducible assumption
    | with_reducible apply mL_im_sets_0
    | with_reducible apply mF_slices_SortFunc_SSint_Sint
    | with_reducible apply mF_im_compareSets
    | with_reducible refine Le.bnd ?_
    | with_reducible intro _
theorem mF_im_sets (x340 : Int) : Le (Fm_im_sets x340) (F_im_sets x340) := by
  unfold Fm_im_sets F_im_sets
  apply mT_im_sets
  all_goals assumption
theorem mS_im_isRising_0 (x341 : (List (Int)) × ((Int) × ((List (Int)) × (Int)))) (x342 : Int) : Le (Sm_im_isRising_0 x341 x342).ev (S_im_isRising_0 x341 x342).ev := by
  unfold Sm_im_isRising_0 S_im_isRising_0
  try dsimp only
  repeat' first
    | with_reducible exact Le.refl _
    | with_reducible exact Le.f _
    | with_reducible refine Le.t ?_ ?_
    | with_reducible refine Le.g ?_
    | with_reducible refine Le.s (fun _ => ?_) (fun _ => ?_)
    | with_reducible refine Le.c ?_ (fun _ => ?_)
    | with_reducible assumption
    | with_reducible apply mF_im_between
    | with_reducible refine Le.bnd ?_
    | with_reducible intro _
theorem mL_im_isRising_0 (x343 : (List (Int)) × ((Int) × ((List (Int)) × (Int)))) (x344 : Int) : Le (Lm_im_isRising_0 x343 x344) (L_im_isRising_0 x343 x344) := by
  unfold Lm_im_isRising_0 L_im_isRising_0
  refine Le.it (fun v => ?_) _ _
  apply mS_im_isRising_0
  all_goals assumption
theorem mT_im_isRising (x345 : List (Int)) (x346 : Int) : Le (Tm_im_isRising x345 x346).ev (T_im_isRising x345 x346).ev := by
  unfold Tm_im_isRising T_im_isRising
  try dsimp only
  repeat' first
    | with_reducible exact Le.refl _
    | with_reducible exact Le.f _
    | with_reducible refine Le.t ?_ ?_
    | with_reducible refine Le.g ?_
    | with_reducible refine Le.s (fun _ => ?_) (fun _ => ?_)
    | with_reducible refine Le.c ?_ (fun _ => ?_)
    | with_reducible assumption
    | with_reducible apply mL_im_isRising_0
    | with_reducible refine Le.bnd ?_
    | with_reducible intro _
theorem mF_im_isRising (x347 : List (Int)) (x348 : Int) : Le (Fm_im_isRising x347 x348) (F_im_isRising x347 x348) := by
  unfold Fm_im_isRising F_im_isRising
  apply mT_im_isRising
  all_goals assumption
theorem mS_im_bagOf_0 (x349 : (List (Int)) × (Int)) (x350 : (Int) × (Int)) : Le (Sm_im_bagOf_0 x349 x350).ev (S_im_bagOf_0 x349 x350).ev := by
  unfold Sm_im_bagOf_0 S_im_bagOf_0
  try dsimp only
  repeat' first
    | with_reducible exact Le.refl _
    | with_reducible exact Le.f _
    | with_reducible refine Le.t ?_ ?_
    | with_reducible refine Le.g ?_
    | with_reducible refine Le.s (fun _ => ?_) (fun _ => ?_)
    | with_reducible refine Le.c ?_ (fun _ => ?_)
    | with_reducible assumption
    | with_reducible refine Le.bnd ?_
    | with_reducible intro _
theorem mL_im_bagOf_0 (x351 : (List (Int)) × (Int)) (x352 : (Int) × (Int)) : Le (Lm_im_bagOf_0 x351 x352) (L_im_bagOf_0 x351 x352) := by
  unfold Lm_im_bagOf_0 L_im_bagOf_0
  refine Le.it (fun v => ?_) _ _
  apply mS_im_bagOf_0
  all_goals assumption
theorem mT_im_bagOf (x353 : List (Int)) : Le (Tm_im_bagOf x353).ev (T_im_bagOf x353).ev := by
  unfold Tm_im_bagOf T_im_bagOf
  try dsimp only
  repeat' first
    | with_reducible exact Le.refl _
    | with_reducible exact Le.f _
    | with_reducible refine Le.t ?_ ?_
    | with_reducible refine Le.g ?_
    | with_reducible refine Le.s (fun _ => ?_) (fun _ => ?_)
    | with_reducible refine Le.c ?_ (fun _ => ?_)
    | with_reducible assumption
    | with_reducible apply mL_im_bagOf_0
    | with_reducible refine Le.bnd ?_
    | with_reducible intro _
theorem mF_im_bagOf (x354 : List (Int)) : Le (Fm_im_bagOf x354) (F_im_bagOf x354) := by
  unfold Fm_im_bagOf F_im_bagOf
  apply mT_im_bagOf
  all_goals assumption
end Go.Proofs.Ytlmbhkmaflhagaa
