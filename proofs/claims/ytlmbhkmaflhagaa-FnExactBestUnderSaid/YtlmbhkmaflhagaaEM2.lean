import Derived.Test.YtlmbhkmaflhagaaEM1
namespace Go.Proofs.Ytlmbhkmaflhagaa
theorem mS_sp_l2Bits_0 (x1 : (Int) × (Int)) (x2 : (Int) × (List (Int))) : Le (Sm_sp_l2Bits_0 x1 x2).ev (S_sp_l2Bits_0 x1 x2).ev := by
  unfold Sm_sp_l2Bits_0 S_sp_l2Bits_0
  try dsimp only
  repeat' first
    | with_reducible exact Le.refl _
    | with_reducible exact Le.f _
    | with_reducible refine Le.t ?_ ?_
    | with_reducible refine Le.g ?_
    | with_reducible refine Le.s (fun _ => ?_) (fun _ => ?_)
    | with_reducible refine Le.c ?_ (fun _ => ?_)
    | with_reducible assumption
    | with_reducible refine Le.bnd ?_
    | with_reducible intro _
theorem mL_sp_l2Bits_0 (x3 : (Int) × (Int)) (x4 : (Int) × (List (Int))) : Le (Lm_sp_l2Bits_0 x3 x4) (L_sp_l2Bits_0 x3 x4) := by
  unfold Lm_sp_l2Bits_0 L_sp_l2Bits_0
  refine Le.it (fun v => ?_) _ _
  apply mS_sp_l2Bits_0
  all_goals assumption
theorem mT_sp_l2Bits (x5 : Int) (x6 : Int) : Le (Tm_sp_l2Bits x5 x6).ev (T_sp_l2Bits x5 x6).ev := by
  unfold Tm_sp_l2Bits T_sp_l2Bits
  try dsimp only
  repeat' first
    | with_reducible exact Le.refl _
    | with_reducible exact Le.f _
    | with_reducible refine Le.t ?_ ?_
    | with_reducible refine Le.g ?_
    | with_reducible refine Le.s (fun _ => ?_) (fun _ => ?_)
    | with_reducible refine Le.c ?_ (fun _ => ?_)
    | with_reducible assumption
    | with_reducible apply mL_sp_l2Bits_0
    | with_reducible refine Le.bnd ?_
    | with_reducible intro _
theorem mF_sp_l2Bits (x7 : Int) (x8 : Int) : Le (Fm_sp_l2Bits x7 x8) (F_sp_l2Bits x7 x8) := by
  unfold Fm_sp_l2Bits F_sp_l2Bits
  apply mT_sp_l2Bits
  all_goals assumption
theorem mS_sp_l2Before_0 (x9 : (List (Int)) × (List (Int))) (x10 : Int) : Le (Sm_sp_l2Before_0 x9 x10).ev (S_sp_l2Before_0 x9 x10).ev := by
  unfold Sm_sp_l2Before_0 S_sp_l2Before_0
  try dsimp only
  repeat' first
    | with_reducible exact Le.refl _
    | with_reducible exact Le.f _
    | with_reducible refine Le.t ?_ ?_
    | with_reducible refine Le.g ?_
    | with_reducible refine Le.s (fun _ => ?_) (fun _ => ?_)
    | with_reducible refine Le.c ?_ (fun _ => ?_)
    | with_reducible assumption
    | with_reducible refine Le.bnd ?_
    | with_reducible intro _
theorem mL_sp_l2Before_0 (x11 : (List (Int)) × (List (Int))) (x12 : Int) : Le (Lm_sp_l2Before_0 x11 x12) (L_sp_l2Before_0 x11 x12) := by
  unfold Lm_sp_l2Before_0 L_sp_l2Before_0
  refine Le.it (fun v => ?_) _ _
  apply mS_sp_l2Before_0
  all_goals assumption
theorem mT_sp_l2Before (x13 : List (Int)) (x14 : List (Int)) : Le (Tm_sp_l2Before x13 x14).ev (T_sp_l2Before x13 x14).ev := by
  unfold Tm_sp_l2Before T_sp_l2Before
  try dsimp only
  repeat' first
    | with_reducible exact Le.refl _
    | with_reducible exact Le.f _
    | with_reducible refine Le.t ?_ ?_
    | with_reducible refine Le.g ?_
    | with_reducible refine Le.s (fun _ => ?_) (fun _ => ?_)
    | with_reducible refine Le.c ?_ (fun _ => ?_)
    | with_reducible assumption
    | with_reducible apply mL_sp_l2Before_0
    | with_reducible refine Le.bnd ?_
    | with_reducible intro _
theorem mF_sp_l2Before (x15 : List (Int)) (x16 : List (Int)) : Le (Fm_sp_l2Before x15 x16) (F_sp_l2Before x15 x16) := by
  unfold Fm_sp_l2Before F_sp_l2Before
  apply mT_sp_l2Before
  all_goals assumption
theorem mS_sp_l2Sets_2 (x17 : (Int) × ((List (List (Int))) × ((Int) × (List (Int))))) (x18 : Int) : Le (Sm_sp_l2Sets_2 x17 x18).ev (S_sp_l2Sets_2 x17 x18).ev := by
  unfold Sm_sp_l2Sets_2 S_sp_l2Sets_2
  try dsimp only
  repeat' first
    | with_reducible exact Le.refl _
    | with_reducible exact Le.f _
    | with_reducible refine Le.t ?_ ?_
    | with_reducible refine Le.g ?_
    | with_reducible refine Le.s (fun _ => ?_) (fun _ => ?_)
    | with_reducible refine Le.c ?_ (fun _ => ?_)
    | with_reducible assumption
    | with_reducible apply mF_sp_l2Before
    | with_reducible refine Le.bnd ?_
    | with_reducible intro _
theorem mL_sp_l2Sets_2 (x19 : (Int) × ((List (List (Int))) × ((Int) × (List (Int))))) (x20 : Int) : Le (Lm_sp_l2Sets_2 x19 x20) (L_sp_l2Sets_2 x19 x20) := by
  unfold Lm_sp_l2Sets_2 L_sp_l2Sets_2
  refine Le.it (fun v => ?_) _ _
  apply mS_sp_l2Sets_2
  all_goals assumption
theorem mS_sp_l2Sets_0 (x21 : Int) (x22 : (List (List (Int))) × (Int)) : Le (Sm_sp_l2Sets_0 x21 x22).ev (S_sp_l2Sets_0 x21 x22).ev := by
  unfold Sm_sp_l2Sets_0 S_sp_l2Sets_0
  try dsimp only
  repeat' first
    | with_reducible exact Le.refl _
    | with_reducible exact Le.f _
    | with_reducible refine Le.t ?_ ?_
    | with_reducible refine Le.g ?_
    | with_reducible refine Le.s (fun _ => ?_) (fun _ => ?_)
    | with_reducible refine Le.c ?_ (fun _ => ?_)
    | with_reducible assumption
    | with_reducible apply mF_sp_l2Bits
    | with_reducible apply mL_sp_l2Sets_2
    | with_reducible refine Le.bnd ?_
    | with_reducible intro _
theorem mL_sp_l2Sets_0 (x23 : Int) (x24 : (List (List (Int))) × (Int)) : Le (Lm_sp_l2Sets_0 x23 x24) (L_sp_l2Sets_0 x23 x24) := by
  unfold Lm_sp_l2Sets_0 L_sp_l2Sets_0
  refine Le.it (fun v => ?_) _ _
  apply mS_sp_l2Sets_0
  all_goals assumption
theorem mT_sp_l2Sets (x25 : Int) : Le (Tm_sp_l2Sets x25).ev (T_sp_l2Sets x25).ev := by
  unfold Tm_sp_l2Sets T_sp_l2Sets
  try dsimp only
  repeat' first
    | with_reducible exact Le.refl _
    | with_reducible exact Le.f _
    | with_reducible refine Le.t ?_ ?_
    | with_reducible refine Le.g ?_
    | with_reducible refine Le.s (fun _ => ?_) (fun _ => ?_)
    | with_reducible refine Le.c ?_ (fun _ => ?_)
    | with_reducible assumption
    | with_reducible apply mL_sp_l2Sets_0
    | with_reducible refine Le.bnd ?_
    | with_reducible intro _
theorem mF_sp_l2Sets (x26 : Int) : Le (Fm_sp_l2Sets x26) (F_sp_l2Sets x26) := by
  unfold Fm_sp_l2Sets F_sp_l2Sets
  apply mT_sp_l2Sets
  all_goals assumption
theorem mT_im_bag_has (x27 : Int) (x28 : Int) : Le (Tm_im_bag_has x27 x28).ev (T_im_bag_has x27 x28).ev := by
  unfold Tm_im_bag_has T_im_bag_has
  try dsimp only
  repeat' first
    | with_reducible exact Le.refl _
    | with_reducible exact Le.f _
    | with_reducible refine Le.t ?_ ?_
    | with_reducible refine Le.g ?_
    | with_reducible refine Le.s (fun _ => ?_) (fun _ => ?_)
    | with_reducible refine Le.c ?_ (fun _ => ?_)
    | with_reducible assumption
    | with_reducible refine Le.bnd ?_
    | with_reducible intro _
theorem mF_im_bag_has (x29 : Int) (x30 : Int) : Le (Fm_im_bag_has x29 x30) (F_im_bag_has x29 x30) := by
  unfold Fm_im_bag_has F_im_bag_has
  apply mT_im_bag_has
  all_goals assumption
theorem mS_im_bag_list_0 (x31 : Int) (x32 : (Int) × (List (Int))) : Le (Sm_im_bag_list_0 x31 x32).ev (S_im_bag_list_0 x31 x32).ev := by
  unfold Sm_im_bag_list_0 S_im_bag_list_0
  try dsimp only
  repeat' first
    | with_reducible exact Le.refl _
    | with_reducible exact Le.f _
    | with_reducible refine Le.t ?_ ?_
    | with_reducible refine Le.g ?_
    | with_reducible refine Le.s (fun _ => ?_) (fun _ => ?_)
    | with_reducible refine Le.c ?_ (fun _ => ?_)
    | with_reducible assumption
    | with_reducible apply mF_im_bag_has
    | with_reducible refine Le.bnd ?_
    | with_reducible intro _
theorem mL_im_bag_list_0 (x33 : Int) (x34 : (Int) × (List (Int))) : Le (Lm_im_bag_list_0 x33 x34) (L_im_bag_list_0 x33 x34) := by
  unfold Lm_im_bag_list_0 L_im_bag_list_0
  refine Le.it (fun v => ?_) _ _
  apply mS_im_bag_list_0
  all_goals assumption
theorem mT_im_bag_list (x35 : Int) : Le (Tm_im_bag_list x35).ev (T_im_bag_list x35).ev := by
  unfold Tm_im_bag_list T_im_bag_list
  try dsimp only
  repeat' first
    | with_reducible exact Le.refl _
    | with_reducible exact Le.f _
    | with_reducible refine Le.t ?_ ?_
    | with_reducible refine Le.g ?_
    | with_reducible refine Le.s (fun _ => ?_) (fun _ => ?_)
    | with_reducible refine Le.c ?_ (fun _ => ?_)
    | with_reducible assumption
    | with_reducible apply mL_im_bag_list_0
    | with_reducible refine Le.bnd ?_
    | with_reducible intro _
theorem mF_im_bag_list (x36 : Int) : Le (Fm_im_bag_list x36) (F_im_bag_list x36) := by
  unfold Fm_im_bag_list F_im_bag_list
  apply mT_im_bag_list
  all_goals assumption
theorem mT_math_bits_Len64 (x37 : Int) : Le (Tm_math_bits_Len64 x37).ev (T_math_bits_Len64 x37).ev := by
  unfold Tm_math_bits_Len64 T_math_bits_Len64
  try dsimp only
  repeat' first
    | with_reducible exact Le.refl _
    | with_reducible exact Le.f _
    | with_reducible refine Le.t ?_ ?_
    | with_reducible refine Le.g ?_
    | with_reducible refine Le.s (fun _ => ?_) (fun _ => ?_)
    | with_reducible refine Le.c ?_ (fun _ => ?_)
    | with_reducible assumption
    | with_reducible refine Le.bnd ?_
    | with_reducible intro _
theorem mF_math_bits_Len64 (x38 : Int) : Le (Fm_math_bits_Len64 x38) (F_math_bits_Len64 x38) := by
  unfold Fm_math_bits_Len64 F_math_bits_Len64
  apply mT_math_bits_Len64
  all_goals assumption
theorem mT_math_bits_Len (x39 : Int) : Le (Tm_math_bits_Len x39).ev (T_math_bits_Len x39).ev := by
  unfold Tm_math_bits_Len T_math_bits_Len
  try dsimp only
  repeat' first
    | with_reducible exact Le.refl _
    | with_reducible exact Le.f _
    | with_reducible refine Le.t ?_ ?_
    | with_reducible refine Le.g ?_
    | with_reducible refine Le.s (fun _ => ?_) (fun _ => ?_)
    | with_reducible refine Le.c ?_ (fun _ => ?_)
    | with_reducible assumption
    | with_reducible apply mF_math_bits_Len64
    | with_reducible refine Le.bnd ?_
    | with_reducible intro _
theorem mF_math_bits_Len (x40 : Int) : Le (Fm_math_bits_Len x40) (F_math_bits_Len x40) := by
  unfold Fm_math_bits_Len F_math_bits_Len
  apply mT_math_bits_Len
  all_goals assumption
theorem mS_slices_insertionSortCmpFunc_Sint_2 (c41 : (Int)) (c42 : (Int)) (q43 q44 : ((HL [(.slice (.int .i64)), (.slice (.int .i64))] → Option (Int)))) (hq45 : ∀ h, Le (q43 h) (q44 h)) (c46 : Int) (x47 : (Int) × ((List Nat) × (List (List (Int))))) : Le (Sm_slices_insertionSortCmpFunc_Sint_2 (c41, (c42, (q43, c46))) x47).ev (S_slices_insertionSortCmpFunc_Sint_2 (c41, (c42, (q44, c46))) x47).ev := by
  unfold Sm_slices_insertionSortCmpFunc_Sint_2 S_slices_insertionSortCmpFunc_Sint_2
  try dsimp only
  repeat' first
    | with_reducible exact Le.refl _
    | with_reducible exact Le.f _
    | with_reducible refine Le.t ?_ ?_
    | with_reducible refine Le.g ?_
    | with_reducible refine Le.s (fun _ => ?_) (fun _ => ?_)
    | with_reducible refine Le.c ?_ (fun _ => ?_)
    | with_reducible assumption
    | with_reducible apply hq45
    | with_reducible refine Le.bnd ?_
    | with_reducible intro _
theorem mL_slices_insertionSortCmpFunc_Sint_2 (c48 : (Int)) (c49 : (Int)) (q50 q51 : ((HL [(.slice (.int .i64)), (.slice (.int .i64))] → Option (Int)))) (hq52 : ∀ h, Le (q50 h) (q51 h)) (c53 : Int) (x54 : (Int) × ((List Nat) × (List (List (Int))))) : Le (Lm_slices_insertionSortCmpFunc_Sint_2 (c48, (c49, (q50, c53))) x54) (L_slices_insertionSortCmpFunc_Sint_2 (c48, (c49, (q51, c53))) x54) := by
  unfold Lm_slices_insertionSortCmpFunc_Sint_2 L_slices_insertionSortCmpFunc_Sint_2
  refine Le.it (fun v => ?_) _ _
  apply mS_slices_insertionSortCmpFunc_Sint_2
  all_goals assumption
theorem mS_slices_insertionSortCmpFunc_Sint_0 (c55 : (Int)) (c56 : (Int)) (q57 q58 : HL [(.slice (.int .i64)), (.slice (.int .i64))] → Option (Int)) (hq59 : ∀ h, Le (q57 h) (q58 h)) (x60 : (Int) × ((List Nat) × (List (List (Int))))) : Le (Sm_slices_insertionSortCmpFunc_Sint_0 (c55, (c56, q57)) x60).ev (S_slices_insertionSortCmpFunc_Sint_0 (c55, (c56, q58)) x60).ev := by
  unfold Sm_slices_insertionSortCmpFunc_Sint_0 S_slices_insertionSortCmpFunc_Sint_0
  try dsimp only
  repeat' first
    | with_reducible exact Le.refl _
    | with_reducible exact Le.f _
    | with_reducible refine Le.t ?_ ?_
    | with_reducible refine Le.g ?_
    | with_reducible refine Le.s (fun _ => ?_) (fun _ => ?_)
    | with_reducible refine Le.c ?_ (fun _ => ?_)
    | with_reducible assumption
    | with_reducible apply hq59
    | with_reducible apply mL_slices_insertionSortCmpFunc_Sint_2
    | with_reducible refine Le.bnd ?_
    | with_reducible intro _
theorem mL_slices_insertionSortCmpFunc_Sint_0 (c61 : (Int)) (c62 : (Int)) (q63 q64 : HL [(.slice (.int .i64)), (.slice (.int .i64))] → Option (Int)) (hq65 : ∀ h, Le (q63 h) (q64 h)) (x66 : (Int) × ((List Nat) × (List (List (Int))))) : Le (Lm_slices_insertionSortCmpFunc_Sint_0 (c61, (c62, q63)) x66) (L_slices_insertionSortCmpFunc_Sint_0 (c61, (c62, q64)) x66) := by
  unfold Lm_slices_insertionSortCmpFunc_Sint_0 L_slices_insertionSortCmpFunc_Sint_0
  refine Le.it (fun v => ?_) _ _
  apply mS_slices_insertionSortCmpFunc_Sint_0
  all_goals assumption
theorem mT_slices_insertionSortCmpFunc_Sint (x67 : Int) (x68 : Int) (q69 q70 : (HL [(.slice (.int .i64)), (.slice (.int .i64))] → Option (Int))) (hq71 : ∀ h, Le (q69 h) (q70 h)) (x72 : (List Nat) × (List (List (Int)))) : Le (Tm_slices_insertionSortCmpFunc_Sint x67 x68 q69 x72).ev (T_slices_insertionSortCmpFunc_Sint x67 x68 q70 x72).ev := by
  unfold Tm_slices_insertionSortCmpFunc_Sint T_slices_insertionSortCmpFunc_Sint
  try dsimp only
  repeat' first
    | with_reducible exact Le.refl _
    | with_reducible exact Le.f _
    | with_reducible refine Le.t ?_ ?_
    | with_reducible refine Le.g ?_
    | with_reducible refine Le.s (fun _ => ?_) (fun _ => ?_)
    | with_reducible refine Le.c ?_ (fun _ => ?_)
    | with_reducible assumption
    | with_reducible apply hq71
    | with_reducible apply mL_slices_insertionSortCmpFunc_Sint_0
    | with_reducible refine Le.bnd ?_
    | with_reducible intro _
theorem mF_slices_insertionSortCmpFunc_Sint (x73 : Int) (x74 : Int) (q75 q76 : (HL [(.slice (.int .i64)), (.slice (.int .i64))] → Option (Int))) (hq77 : ∀ h, Le (q75 h) (q76 h)) (x78 : (List Nat) × (List (List (Int)))) : Le (Fm_slices_insertionSortCmpFunc_Sint x73 x74 q75 x78) (F_slices_insertionSortCmpFunc_Sint x73 x74 q76 x78) := by
  unfold Fm_slices_insertionSortCmpFunc_Sint F_slices_insertionSortCmpFunc_Sint
  apply mT_slices_insertionSortCmpFunc_Sint
  all_goals assumption
theorem mT_slices_nextPowerOfTwo (x79 : Int) : Le (Tm_slices_nextPowerOfTwo x79).ev (T_slices_nextPowerOfTwo x79).ev := by
  unfold Tm_slices_nextPowerOfTwo T_slices_nextPowerOfTwo
  try dsimp only
  repeat' first
    | with_reducible exact Le.refl _
    | with_reducible exact Le.f _
    | with_reducible refine Le.t ?_ ?_
    | with_reducible refine Le.g ?_
    | with_reducible refine Le.s (fun _ => ?_) (fun _ => ?_)
    | with_reducible refine Le.c ?_ (fun _ => ?_)
    | with_reducible assumption
    | with_reducible apply mF_math_bits_Len
    | with_reducible refine Le.bnd ?_
    | with_reducible intro _
theorem mF_slices_nextPowerOfTwo (x80 : Int) : Le (Fm_slices_nextPowerOfTwo x80) (F_slices_nextPowerOfTwo x80) := by
  unfold Fm_slices_nextPowerOfTwo F_slices_nextPowerOfTwo
  apply mT_slices_nextPowerOfTwo
  all_goals assumption
theorem mT_slices_xorshift_Next (x81 : Int) : Le (Tm_slices_xorshift_Next x81).ev (T_slices_xorshift_Next x81).ev := by
  unfold Tm_slices_xorshift_Next T_slices_xorshift_Next
  try dsimp only
  repeat' first
    | with_reducible exact Le.refl _
    | with_reducible exact Le.f _
    | with_reducible refine Le.t ?_ ?_
    | with_reducible refine Le.g ?_
    | with_reducible refine Le.s (fun _ => ?_) (fun _ => ?_)
    | with_reducible refine Le.c ?_ (fun _ => ?_)
    | with_reducible assumption
    | with_reducible refine Le.bnd ?_
    | with_reducible intro _
theorem mF_slices_xorshift_Next (x82 : Int) : Le (Fm_slices_xorshift_Next x82) (F_slices_xorshift_Next x82) := by
  unfold Fm_slices_xorshift_Next F_slices_xorshift_Next
  apply mT_slices_xorshift_Next
  all_goals assumption
theorem mS_slices_breakPatternsCmpFunc_Sint_0 (x83 : (Int) × ((Int) × (Int))) (x84 : (Int) × (((List Nat) × (List (List (Int)))) × (Int))) : Le (Sm_slices_breakPatternsCmpFunc_Sint_0 x83 x84).ev (S_slices_breakPatternsCmpFunc_Sint_0 x83 x84).ev := by
  unfold Sm_slices_breakPatternsCmpFunc_Sint_0 S_slices_breakPatternsCmpFunc_Sint_0
  try dsimp only
  repeat' first
    | with_reducible exact Le.refl _
    | with_reducible exact Le.f _
    | with_reducible refine Le.t ?_ ?_
    | with_reducible refine Le.g ?_
    | with_reducible refine Le.s (fun _ => ?_) (fun _ => ?_)
    | with_reducible refine Le.c ?_ (fun _ => ?_)
    | with_reducible assumption
    | with_reducible apply mF_slices_xorshift_Next
    | with_reducible refine Le.bnd ?_
    | with_reducible intro _
theorem mL_slices_breakPatternsCmpFunc_Sint_0 (x85 : (Int) × ((Int) × (Int))) (x86 : (Int) × (((List Nat) × (List (List (Int)))) × (Int))) : Le (Lm_slices_breakPatternsCmpFunc_Sint_0 x85 x86) (L_slices_breakPatternsCmpFunc_Sint_0 x85 x86) := by
  unfold Lm_slices_breakPatternsCmpFunc_Sint_0 L_slices_breakPatternsCmpFunc_Sint_0
  refine Le.it (fun v => ?_) _ _
  apply mS_slices_breakPatternsCmpFunc_Sint_0
  all_goals assumption
theorem mT_slices_breakPatternsCmpFunc_Sint (x87 : Int) (x88 : Int) (q89 q90 : (HL [(.slice (.int .i64)), (.slice (.int .i64))] → Option (Int))) (hq91 : ∀ h, Le (q89 h) (q90 h)) (x92 : (List Nat) × (List (List (Int)))) : Le (Tm_slices_breakPatternsCmpFunc_Sint x87 x88 q89 x92).ev (T_slices_breakPatternsCmpFunc_Sint x87 x88 q90 x92).ev := by
  unfold Tm_slices_breakPatternsCmpFunc_Sint T_slices_breakPatternsCmpFunc_Sint
  try dsimp only
  repeat' first
    | with_reducible exact Le.refl _
    | with_reducible exact Le.f _
    | with_reducible refine Le.t ?_ ?_
    | with_reducible refine Le.g ?_
    | with_reducible refine Le.s (fun _ => ?_) (fun _ => ?_)
    | with_reducible refine Le.c ?_ (fun _ => ?_)
    | with_reducible assumption
    | with_reducible apply hq91
    | with_reducible apply mF_slices_nextPowerOfTwo
    | with_reducible apply mL_slices_breakPatternsCmpFunc_Sint_0
    | with_reducible refine Le.bnd ?_
    | with_reducible intro _
theorem mF_slices_breakPatternsCmpFunc_Sint (x93 : Int) (x94 : Int) (q95 q96 : (HL [(.slice (.int .i64)), (.slice (.int .i64))] → Option (Int))) (hq97 : ∀ h, Le (q95 h) (q96 h)) (x98 : (List Nat) × (List (List (Int)))) : Le (Fm_slices_breakPatternsCmpFunc_Sint x93 x94 q95 x98) (F_slices_breakPatternsCmpFunc_Sint x93 x94 q96 x98) := by
  unfold Fm_slices_breakPatternsCmpFunc_Sint F_slices_breakPatternsCmpFunc_Sint
  apply mT_slices_breakPatternsCmpFunc_Sint
  all_goals assumption
theorem mT_slices_order2CmpFunc_Sint (x99 : List (List (Int))) (x100 : Int) (x101 : Int) (q102 q103 : (HL [(.slice (.int .i64)), (.slice (.int .i64))] → Option (Int))) (hq104 : ∀ h, Le (q102 h) (q103 h)) (x105 : Int) : Le (Tm_slices_order2CmpFunc_Sint x99 x100 x101 q102 x105).ev (T_slices_order2CmpFunc_Sint x99 x100 x101 q103 x105).ev := by
  unfold Tm_slices_order2CmpFunc_Sint T_slices_order2CmpFunc_Sint
  try dsimp only
  repeat' first
    | with_reducible exact Le.refl _
    | with_reducible exact Le.f _
    | with_reducible refine Le.t ?_ ?_
    | with_reducible refine Le.g ?_
    | with_reducible refine Le.s (fun _ => ?_) (fun _ => ?_)
    | with_reducible refine Le.c ?_ (fun _ => ?_)
    | with_reducible assumption
    | with_reducible apply hq104
    | with_reducible refine Le.bnd ?_
    | with_reducible intro _
theorem mF_slices_order2CmpFunc_Sint (x106 : List (List (Int))) (x107 : Int) (x108 : Int) (q109 q110 : (HL [(.slice (.int .i64)), (.slice (.int .i64))] → Option (Int))) (hq111 : ∀ h, Le (q109 h) (q110 h)) (x112 : Int) : Le (Fm_slices_order2CmpFunc_Sint x106 x107 x108 q109 x112) (F_slices_order2CmpFunc_Sint x106 x107 x108 q110 x112) := by
  unfold Fm_slices_order2CmpFunc_Sint F_slices_order2CmpFunc_Sint
  apply mT_slices_order2CmpFunc_Sint
  all_goals assumption
theorem mT_slices_medianCmpFunc_Sint (x113 : List (List (Int))) (x114 : Int) (x115 : Int) (x116 : Int) (q117 q118 : (HL [(.slice (.int .i64)), (.slice (.int .i64))] → Option (Int))) (hq119 : ∀ h, Le (q117 h) (q118 h)) (x120 : Int) : Le (Tm_slices_medianCmpFunc_Sint x113 x114 x115 x116 q117 x120).ev (T_slices_medianCmpFunc_Sint x113 x114 x115 x116 q118 x120).ev := by
  unfold Tm_slices_medianCmpFunc_Sint T_slices_medianCmpFunc_Sint
  try dsimp only
  repeat' first
    | with_reducible exact Le.refl _
    | with_reducible exact Le.f _
    | with_reducible refine Le.t ?_ ?_
    | with_reducible refine Le.g ?_
    | with_reducible refine Le.s (fun _ => ?_) (fun _ => ?_)
    | with_reducible refine Le.c ?_ (fun _ => ?_)
    | with_reducible assumption
    | with_reducible apply hq119
    | with_reducible apply mF_slices_order2CmpFunc_Sint
    | with_reducible refine Le.bnd ?_
    | with_reducible intro _
theorem mF_slices_medianCmpFunc_Sint (x121 : List (List (Int))) (x122 : Int) (x123 : Int) (x124 : Int) (q125 q126 : (HL [(.slice (.int .i64)), (.slice (.int .i64))] → Option (Int))) (hq127 : ∀ h, Le (q125 h) (q126 h)) (x128 : Int) : Le (Fm_slices_medianCmpFunc_Sint x121 x122 x123 x124 q125 x128) (F_slices_medianCmpFunc_Sint x121 x122 x123 x124 q126 x128) := by
  unfold Fm_slices_medianCmpFunc_Sint F_slices_medianCmpFunc_Sint
  apply mT_slices_medianCmpFunc_Sint
  all_goals assumption
theorem mT_slices_medianAdjacentCmpFunc_Sint (x129 : List (List (Int))) (x130 : Int) (q131 q132 : (HL [(.slice (.int .i64)), (.slice (.int .i64))] → Option (Int))) (hq133 : ∀ h, Le (q131 h) (q132 h)) (x134 : Int) : Le (Tm_slices_medianAdjacentCmpFunc_Sint x129 x130 q131 x134).ev (T_slices_medianAdjacentCmpFunc_Sint x129 x130 q132 x134).ev := by
  unfold Tm_slices_medianAdjacentCmpFunc_Sint T_slices_medianAdjacentCmpFunc_Sint
  try dsimp only
  repeat' first
    | with_reducible exact Le.refl _
    | with_reducible exact Le.f _
    | with_reducible refine Le.t ?_ ?_
    | with_reducible refine Le.g ?_
    | with_reducible refine Le.s (fun _ => ?_) (fun _ => ?_)
    | with_reducible refine Le.c ?_ (fun _ => ?_)
    | with_reducible assumption
    | with_reducible apply hq133
    | with_reducible apply mF_slices_medianCmpFunc_Sint
    | with_reducible refine Le.bnd ?_
    | with_reducible intro _
theorem mF_slices_medianAdjacentCmpFunc_Sint (x135 : List (List (Int))) (x136 : Int) (q137 q138 : (HL [(.slice (.int .i64)), (.slice (.int .i64))] → Option (Int))) (hq139 : ∀ h, Le (q137 h) (q138 h)) (x140 : Int) : Le (Fm_slices_medianAdjacentCmpFunc_Sint x135 x136 q137 x140) (F_slices_medianAdjacentCmpFunc_Sint x135 x136 q138 x140) := by
  unfold Fm_slices_medianAdjacentCmpFunc_Sint F_slices_medianAdjacentCmpFunc_Sint
  apply mT_slices_medianAdjacentCmpFunc_Sint
  all_goals assumption
theorem mT_slices_choosePivotCmpFunc_Sint (x141 : List (List (Int))) (x142 : Int) (x143 : Int) (q144 q145 : (HL [(.slice (.int .i64)), (.slice (.int .i64))] → Option (Int))) (hq146 : ∀ h, Le (q144 h) (q145 h)) : Le (Tm_slices_choosePivotCmpFunc_Sint x141 x142 x143 q144).ev (T_slices_choosePivotCmpFunc_Sint x141 x142 x143 q145).ev := by
  unfold Tm_slices_choosePivotCmpFunc_Sint T_slices_choosePivotCmpFunc_Sint
  try dsimp only
  repeat' first
    | with_reducible exact Le.refl _
    | with_reducible exact Le.f _
    | with_reducible refine Le.t ?_ ?_
    | with_reducible refine Le.g ?_
    | with_reducible refine Le.s (fun _ => ?_) (fun _ => ?_)
    | with_reducible refine Le.c ?_ (fun _ => ?_)
    | with_reducible assumption
    | with_reducible apply hq146
    | with_reducible apply mF_slices_medianAdjacentCmpFunc_Sint
    | with_reducible apply mF_slices_medianCmpFunc_Sint
    | with_reducible refine Le.bnd ?_
    | with_reducible intro _
theorem mF_slices_choosePivotCmpFunc_Sint (x147 : List (List (Int))) (x148 : Int) (x149 : Int) (q150 q151 : (HL [(.slice (.int .i64)), (.slice (.int .i64))] → Option (Int))) (hq152 : ∀ h, Le (q150 h) (q151 h)) : Le (Fm_slices_choosePivotCmpFunc_Sint x147 x148 x149 q150) (F_slices_choosePivotCmpFunc_Sint x147 x148 x149 q151) := by
  unfold Fm_slices_choosePivotCmpFunc_Sint F_slices_choosePivotCmpFunc_Sint
  apply mT_slices_choosePivotCmpFunc_Sint
  all_goals assumption
theorem mS_slices_partitionCmpFunc_Sint_0 (c153 : (Int)) (q154 q155 : ((HL [(.slice (.int .i64)), (.slice (.int .i64))] → Option (Int)))) (hq156 : ∀ h, Le (q154 h) (q155 h)) (c157 : (Int)) (c158 : (List Nat)) (c159 : List (List (Int))) (x160 : Int) : Le (Sm_slices_partitionCmpFunc_Sint_0 (c153, (q154, (c157, (c158, c159)))) x160).ev (S_slices_partitionCmpFunc_Sint_0 (c153, (q155, (c157, (c158, c159)))) x160).ev := by
  unfold Sm_slices_partitionCmpFunc_Sint_0 S_slices_partitionCmpFunc_Sint_0
  try dsimp only
  repeat' first
    | with_reducible exact Le.refl _
    | with_reducible exact Le.f _
    | with_reducible refine Le.t ?_ ?_
    | with_reducible refine Le.g ?_
    | with_reducible refine Le.s (fun _ => ?_) (fun _ => ?_)
    | with_reducible refine Le.c ?_ (fun _ => ?_)
    | with_reducible assumption
    | with_reducible apply hq156
    | with_reducible refine Le.bnd ?_
    | with_reducible intro _
theorem mL_slices_partitionCmpFunc_Sint_0 (c161 : (Int)) (q162 q163 : ((HL [(.slice (.int .i64)), (.slice (.int .i64))] → Option (Int)))) (hq164 : ∀ h, Le (q162 h) (q163 h)) (c165 : (Int)) (c166 : (List Nat)) (c167 : List (List (Int))) (x168 : Int) : Le (Lm_slices_partitionCmpFunc_Sint_0 (c161, (q162, (c165, (c166, c167)))) x168) (L_slices_partitionCmpFunc_Sint_0 (c161, (q163, (c165, (c166, c167)))) x168) := by
  unfold Lm_slices_partitionCmpFunc_Sint_0 L_slices_partitionCmpFunc_Sint_0
  refine Le.it (fun v => ?_) _ _
  apply mS_slices_partitionCmpFunc_Sint_0
  all_goals assumption
theorem mS_slices_partitionCmpFunc_Sint_2 (c169 : (Int)) (q170 q171 : ((HL [(.slice (.int .i64)), (.slice (.int .i64))] → Option (Int)))) (hq172 : ∀ h, Le (q170 h) (q171 h)) (c173 : (Int)) (c174 : (List Nat)) (c175 : List (List (Int))) (x176 : Int) : Le (Sm_slices_partitionCmpFunc_Sint_2 (c169, (q170, (c173, (c174, c175)))) x176).ev (S_slices_partitionCmpFunc_Sint_2 (c169, (q171, (c173, (c174, c175)))) x176).ev := by
  unfold Sm_slices_partitionCmpFunc_Sint_2 S_slices_partitionCmpFunc_Sint_2
  try dsimp only
  repeat' first
    | with_reducible exact Le.refl _
    | with_reducible exact Le.f _
    | with_reducible refine Le.t ?_ ?_
    | with_reducible refine Le.g ?_
    | with_reducible refine Le.s (fun _ => ?_) (fun _ => ?_)
    | with_reducible refine Le.c ?_ (fun _ => ?_)
    | with_reducible assumption
    | with_reducible apply hq172
    | with_reducible refine Le.bnd ?_
    | with_reducible intro _
theorem mL_slices_partitionCmpFunc_Sint_2 (c177 : (Int)) (q178 q179 : ((HL [(.slice (.int .i64)), (.slice (.int .i64))] → Option (Int)))) (hq180 : ∀ h, Le (q178 h) (q179 h)) (c181 : (Int)) (c182 : (List Nat)) (c183 : List (List (Int))) (x184 : Int) : Le (Lm_slices_partitionCmpFunc_Sint_2 (c177, (q178, (c181, (c182, c183)))) x184) (L_slices_partitionCmpFunc_Sint_2 (c177, (q179, (c181, (c182, c183)))) x184) := by
  unfold Lm_slices_partitionCmpFunc_Sint_2 L_slices_partitionCmpFunc_Sint_2
  refine Le.it (fun v => ?_) _ _
  apply mS_slices_partitionCmpFunc_Sint_2
  all_goals assumption
theorem mS_slices_partitionCmpFunc_Sint_6 (c185 : (Int)) (q186 q187 : ((HL [(.slice (.int .i64)), (.slice (.int .i64))] → Option (Int)))) (hq188 : ∀ h, Le (q186 h) (q187 h)) (c189 : (Int)) (c190 : (List Nat)) (c191 : List (List (Int))) (x192 : Int) : Le (Sm_slices_partitionCmpFunc_Sint_6 (c185, (q186, (c189, (c190, c191)))) x192).ev (S_slices_partitionCmpFunc_Sint_6 (c185, (q187, (c189, (c190, c191)))) x192).ev := by
  unfold Sm_slices_partitionCmpFunc_Sint_6 S_slices_partitionCmpFunc_Sint_6
  try dsimp only
  repeat' first
    | with_reducible exact Le.refl _
    | with_reducible exact Le.f _
    | with_reducible refine Le.t ?_ ?_
    | with_reducible refine Le.g ?_
    | with_reducible refine Le.s (fun _ => ?_) (fun _ => ?_)
    | with_reducible refine Le.c ?_ (fun _ => ?_)
    | with_reducible assumption
    | with_reducible apply hq188
    | with_reducible refine Le.bnd ?_
    | with_reducible intro _
theorem mL_slices_partitionCmpFunc_Sint_6 (c193 : (Int)) (q194 q195 : ((HL [(.slice (.int .i64)), (.slice (.int .i64))] → Option (Int)))) (hq196 : ∀ h, Le (q194 h) (q195 h)) (c197 : (Int)) (c198 : (List Nat)) (c199 : List (List (Int))) (x200 : Int) : Le (Lm_slices_partitionCmpFunc_Sint_6 (c193, (q194, (c197, (c198, c199)))) x200) (L_slices_partitionCmpFunc_Sint_6 (c193, (q195, (c197, (c198, c199)))) x200) := by
  unfold Lm_slices_partitionCmpFunc_Sint_6 L_slices_partitionCmpFunc_Sint_6
  refine Le.it (fun v => ?_) _ _
  apply mS_slices_partitionCmpFunc_Sint_6
  all_goals assumption
theorem mS_slices_partitionCmpFunc_Sint_8 (c201 : (Int)) (q202 q203 : ((HL [(.slice (.int .i64)), (.slice (.int .i64))] → Option (Int)))) (hq204 : ∀ h, Le (q202 h) (q203 h)) (c205 : (Int)) (c206 : (List Nat)) (c207 : List (List (Int))) (x208 : Int) : Le (Sm_slices_partitionCmpFunc_Sint_8 (c201, (q202, (c205, (c206, c207)))) x208).ev (S_slices_partitionCmpFunc_Sint_8 (c201, (q203, (c205, (c206, c207)))) x208).ev := by
  unfold Sm_slices_partitionCmpFunc_Sint_8 S_slices_partitionCmpFunc_Sint_8
  try dsimp only
  repeat' first
    | with_reducible exact Le.refl _
    | with_reducible exact Le.f _
    | with_reducible refine Le.t ?_ ?_
    | with_reducible refine Le.g ?_
    | with_reducible refine Le.s (fun _ => ?_) (fun _ => ?_)
    | with_reducible refine Le.c ?_ (fun _ => ?_)
    | with_reducible assumption
    | with_reducible apply hq204
    | with_reducible refine Le.bnd ?_
    | with_reducible intro _
theorem mL_slices_partitionCmpFunc_Sint_8 (c209 : (Int)) (q210 q211 : ((HL [(.slice (.int .i64)), (.slice (.int .i64))] → Option (Int)))) (hq212 : ∀ h, Le (q210 h) (q211 h)) (c213 : (Int)) (c214 : (List Nat)) (c215 : List (List (Int))) (x216 : Int) : Le (Lm_slices_partitionCmpFunc_Sint_8 (c209, (q210, (c213, (c214, c215)))) x216) (L_slices_partitionCmpFunc_Sint_8 (c209, (q211, (c213, (c214, c215)))) x216) := by
  unfold Lm_slices_partitionCmpFunc_Sint_8 L_slices_partitionCmpFunc_Sint_8
  refine Le.it (fun v => ?_) _ _
  apply mS_slices_partitionCmpFunc_Sint_8
  all_goals assumption
theorem mS_slices_partitionCmpFunc_Sint_4 (c217 : (Int)) (q218 q219 : HL [(.slice (.int .i64)), (.slice (.int .i64))] → Option (Int)) (hq220 : ∀ h, Le (q218 h) (q219 h)) (x221 : (Int) × ((Int) × ((List Nat) × (List (List (Int)))))) : Le (Sm_slices_partitionCmpFunc_Sint_4 (c217, q218) x221).ev (S_slices_partitionCmpFunc_Sint_4 (c217, q219) x221).ev := by
  unfold Sm_slices_partitionCmpFunc_Sint_4 S_slices_partitionCmpFunc_Sint_4
  try dsimp only
  repeat' first
    | with_reducible exact Le.refl _
    | with_reducible exact Le.f _
    | with_reducible refine Le.t ?_ ?_
    | with_reducible refine Le.g ?_
    | with_reducible refine Le.s (fun _ => ?_) (fun _ => ?_)
    | with_reducible refine Le.c ?_ (fun _ => ?_)
    | with_reducible assumption
    | with_reducible apply hq220
    | with_reducible apply mL_slices_partitionCmpFunc_Sint_6
    | with_reducible apply mL_slices_partitionCmpFunc_Sint_8
    | with_reducible refine Le.bnd ?_
    | with_reducible intro _
theorem mL_slices_partitionCmpFunc_Sint_4 (c222 : (Int)) (q223 q224 : HL [(.slice (.int .i64)), (.slice (.int .i64))] → Option (Int)) (hq225 : ∀ h, Le (q223 h) (q224 h)) (x226 : (Int) × ((Int) × ((List Nat) × (List (List (Int)))))) : Le (Lm_slices_partitionCmpFunc_Sint_4 (c222, q223) x226) (L_slices_partitionCmpFunc_Sint_4 (c222, q224) x226) := by
  unfold Lm_slices_partitionCmpFunc_Sint_4 L_slices_partitionCmpFunc_Sint_4
  refine Le.it (fun v => ?_) _ _
  apply mS_slices_partitionCmpFunc_Sint_4
  all_goals assumption
theorem mT_slices_partitionCmpFunc_Sint (x227 : Int) (x228 : Int) (x229 : Int) (q230 q231 : (HL [(.slice (.int .i64)), (.slice (.int .i64))] → Option (Int))) (hq232 : ∀ h, Le (q230 h) (q231 h)) (x233 : (List Nat) × (List (List (Int)))) : Le (Tm_slices_partitionCmpFunc_Sint x227 x228 x229 q230 x233).ev (T_slices_partitionCmpFunc_Sint x227 x228 x229 q231 x233).ev := by
  unfold Tm_slices_partitionCmpFunc_Sint T_slices_partitionCmpFunc_Sint
  try dsimp only
  repeat' first
    | with_reducible exact Le.refl _
    | with_reducible exact Le.f _
    | with_reducible refine Le.t ?_ ?_
    | with_reducible refine Le.g ?_
    | with_reducible refine Le.s (fun _ => ?_) (fun _ => ?_)
    | with_reducible refine Le.c ?_ (fun _ => ?_)
    | with_reducible assumption
    | with_reducible apply hq232
    | with_reducible apply mL_slices_partitionCmpFunc_Sint_0
    | with_reducible apply mL_slices_partitionCmpFunc_Sint_2
    | with_reducible apply mL_slices_partitionCmpFunc_Sint_4
    | with_reducible refine Le.bnd ?_
    | with_reducible intro _
theorem mF_slices_partitionCmpFunc_Sint (x234 : Int) (x235 : Int) (x236 : Int) (q237 q238 : (HL [(.slice (.int .i64)), (.slice (.int .i64))] → Option (Int))) (hq239 : ∀ h, Le (q237 h) (q238 h)) (x240 : (List Nat) × (List (List (Int)))) : Le (Fm_slices_partitionCmpFunc_Sint x234 x235 x236 q237 x240) (F_slices_partitionCmpFunc_Sint x234 x235 x236 q238 x240) := by
  unfold Fm_slices_partitionCmpFunc_Sint F_slices_partitionCmpFunc_Sint
  apply mT_slices_partitionCmpFunc_Sint
  all_goals assumption
theorem mS_slices_pdqsortCmpFunc_Sint_0 (rec241 rec242 : (Int) → (Int) → (Int) → ((HL [(.slice (.int .i64)), (.slice (.int .i64))] → Option (Int))) → ((List Nat) × (List (List (Int)))) → Option ((List Nat) × (List (List (Int))))) (hr243 : ∀ (x244 : (Int)) (x245 : (Int)) (x246 : (Int)) (q247 q248 : ((HL [(.slice (.int .i64)), (.slice (.int .i64))] → Option (Int)))) (hq249 : ∀ h, Le (q247 h) (q248 h)) (x250 : ((List Nat) × (List (List (Int))))), Le (rec241 x244 x245 x246 q247 x250) (rec242 x244 x245 x246 q248 x250)) (q251 q252 : (HL [(.slice (.int .i64)), (.slice (.int .i64))] → Option (Int))) (hq253 : ∀ h, Le (q251 h) (q252 h)) (x254 : (Int) × ((Int) × ((Int) × ((Bool) × ((Bool) × ((List Nat) × (List (List (Int))))))))) : Le (Sm_slices_pdqsortCmpFunc_Sint_0 rec241 q251 x254).ev (S_slices_pdqsortCmpFunc_Sint_0 rec242 q252 x254).ev := by
  unfold Sm_slices_pdqsortCmpFunc_Sint_0 S_slices_pdqsortCmpFunc_Sint_0
  try dsimp only
  repeat' first
    | with_reducible exact Le.refl _
    | with_reducible exact Le.f _
    | with_reducible refine Le.t ?_ ?_
    | with_reducible refine Le.g ?_
    | with_reducible refine Le.s (fun _ => ?_) (fun _ => ?_)
    | with_reducible refine Le.c ?_ (fun _ => ?_)
    | with_reducible assumption
    | with_reducible apply hr243
    | with_reducible apply hq253
    | with_reducible apply mF_slices_insertionSortCmpFunc_Sint
    | with_reducible apply mF_slices_breakPatternsCmpFunc_Sint
    | with_reducible apply mF_slices_choosePivotCmpFunc_Sint
    | with_reducible apply mF_slices_partitionCmpFunc_Sint
    | with_reducible refine Le.bnd ?_
    | with_reducible intro _
theorem mL_slices_pdqsortCmpFunc_Sint_0 (rec255 rec256 : (Int) → (Int) → (Int) → ((HL [(.slice (.int .i64)), (.slice (.int .i64))] → Option (Int))) → ((List Nat) × (List (List (Int)))) → Option ((List Nat) × (List (List (Int))))) (hr257 : ∀ (x258 : (Int)) (x259 : (Int)) (x260 : (Int)) (q261 q262 : ((HL [(.slice (.int .i64)), (.slice (.int .i64))] → Option (Int)))) (hq263 : ∀ h, Le (q261 h) (q262 h)) (x264 : ((List Nat) × (List (List (Int))))), Le (rec255 x258 x259 x260 q261 x264) (rec256 x258 x259 x260 q262 x264)) (q265 q266 : (HL [(.slice (.int .i64)), (.slice (.int .i64))] → Option (Int))) (hq267 : ∀ h, Le (q265 h) (q266 h)) (x268 : (Int) × ((Int) × ((Int) × ((Bool) × ((Bool) × ((List Nat) × (List (List (Int))))))))) : Le (Lm_slices_pdqsortCmpFunc_Sint_0 rec255 q265 x268) (L_slices_pdqsortCmpFunc_Sint_0 rec256 q266 x268) := by
  unfold Lm_slices_pdqsortCmpFunc_Sint_0 L_slices_pdqsortCmpFunc_Sint_0
  refine Le.it (fun v => ?_) _ _
  apply mS_slices_pdqsortCmpFunc_Sint_0
  all_goals assumption
theorem mT_slices_pdqsortCmpFunc_Sint (rec269 rec270 : (Int) → (Int) → (Int) → ((HL [(.slice (.int .i64)), (.slice (.int .i64))] → Option (Int))) → ((List Nat) × (List (List (Int)))) → Option ((List Nat) × (List (List (Int))))) (hr271 : ∀ (x272 : (Int)) (x273 : (Int)) (x274 : (Int)) (q275 q276 : ((HL [(.slice (.int .i64)), (.slice (.int .i64))] → Option (Int)))) (hq277 : ∀ h, Le (q275 h) (q276 h)) (x278 : ((List Nat) × (List (List (Int))))), Le (rec269 x272 x273 x274 q275 x278) (rec270 x272 x273 x274 q276 x278)) (x279 : Int) (x280 : Int) (x281 : Int) (q282 q283 : (HL [(.slice (.int .i64)), (.slice (.int .i64))] → Option (Int))) (hq284 : ∀ h, Le (q282 h) (q283 h)) (x285 : (List Nat) × (List (List (Int)))) : Le (Tm_slices_pdqsortCmpFunc_Sint rec269 x279 x280 x281 q282 x285).ev (T_slices_pdqsortCmpFunc_Sint rec270 x279 x280 x281 q283 x285).ev := by
  unfold Tm_slices_pdqsortCmpFunc_Sint T_slices_pdqsortCmpFunc_Sint
  try dsimp only
  repeat' first
    | with_reducible exact Le.refl _
    | with_reducible exact Le.f _
    | with_reducible refine Le.t ?_ ?_
    | with_reducible refine Le.g ?_
    | with_reducible refine Le.s (fun _ => ?_) (fun _ => ?_)
    | with_reducible refine Le.c ?_ (fun _ => ?_)
    | with_reducible assumption
    | with_reducible apply hr271
    | with_reducible apply hq284
    | with_reducible apply mL_slices_pdqsortCmpFunc_Sint_0
    | with_reducible refine Le.bnd ?_
    | with_reducible intro _
theorem mF_slices_pdqsortCmpFunc_Sint : ∀ (n : Nat) (x286 : (Int)) (x287 : (Int)) (x288 : (Int)) (q289 q290 : ((HL [(.slice (.int .i64)), (.slice (.int .i64))] → Option (Int)))) (hq291 : ∀ h, Le (q289 h) (q290 h)) (x292 : ((List Nat) × (List (List (Int))))), Le (Fm_slices_pdqsortCmpFunc_Sint n x286 x287 x288 q289 x292) (F_slices_pdqsortCmpFunc_Sint n x286 x287 x288 q290 x292)
  | 0 => by intros; exact Le.none _
  | n + 1 => by
    intros
    unfold Fm_slices_pdqsortCmpFunc_Sint F_slices_pdqsortCmpFunc_Sint
    apply mT_slices_pdqsortCmpFunc_Sint
    · exact mF_slices_pdqsortCmpFunc_Sint n
    all_goals assumption
theorem mT_slices_SortFunc_SSint_Sint (q293 q294 : (HL [(.slice (.int .i64)), (.slice (.int .i64))] → Option (Int))) (hq295 : ∀ h, Le (q293 h) (q294 h)) (x296 : (List Nat) × (List (List (Int)))) : Le (Tm_slices_SortFunc_SSint_Sint q293 x296).ev (T_slices_SortFunc_SSint_Sint q294 x296).ev := by
  unfold Tm_slices_SortFunc_SSint_Sint T_slices_SortFunc_SSint_Sint
  try dsimp only
  repeat' first
    | with_reducible exact Le.refl _
    | with_reducible exact Le.f _
    | with_reducible refine Le.t ?_ ?_
    | with_reducible refine Le.g ?_
    | with_reducible refine Le.s (fun _ => ?_) (fun _ => ?_)
    | with_reducible refine Le.c ?_ (fun _ => ?_)
    | with_reducible assumption
    | with_reducible apply hq295
    | with_reducible apply mF_math_bits_Len
    | with_reducible apply mF_slices_pdqsortCmpFunc_Sint
    | with_reducible refine Le.bnd ?_
    | with_reducible intro _
theorem mF_slices_SortFunc_SSint_Sint (q297 q298 : (HL [(.slice (.int .i64)), (.slice (.int .i64))] → Option (Int))) (hq299 : ∀ h, Le (q297 h) (q298 h)) (x300 : (List Nat) × (List (List (Int)))) : Le (Fm_slices_SortFunc_SSint_Sint q297 x300) (F_slices_SortFunc_SSint_Sint q298 x300) := by
  unfold Fm_slices_SortFunc_SSint_Sint F_slices_SortFunc_SSint_Sint
  apply mT_slices_SortFunc_SSint_Sint
  all_goals assumption
theorem mT_cmp_isNaN_int (x301 : Int) : Le (Tm_cmp_isNaN_int x301).ev (T_cmp_isNaN_int x301).ev := by
  unfold Tm_cmp_isNaN_int T_cmp_isNaN_int
  try dsimp only
  repeat' first
    | with_reducible exact Le.refl _
    | with_reducible exact Le.f _
    | with_reducible refine Le.t ?_ ?_
    | with_reducible refine Le.g ?_
    | with_reducible refine Le.s (fun _ => ?_) (fun _ => ?_)
    | with_reducible refine Le.c ?_ (fun _ => ?_)
    | with_reducible assumption
    | with_reducible refine Le.bnd ?_
    | with_reducible intro _
theorem mF_cmp_isNaN_int (x302 : Int) : Le (Fm_cmp_isNaN_int x302) (F_cmp_isNaN_int x302) := by
  unfold Fm_cmp_isNaN_int F_cmp_isNaN_int
  apply mT_cmp_isNaN_int
  all_goals assumption
theorem mT_cmp_Compare_int (x303 : Int) (x304 : Int) : Le (Tm_cmp_Compare_int x303 x304).ev (T_cmp_Compare_int x303 x304).ev := by
  unfold Tm_cmp_Compare_int T_cmp_Compare_int
  try dsimp only
  repeat' first
    | with_reducible exact Le.refl _
    | with_reducible exact Le.f _
    | with_reducible refine Le.t ?_ ?_
    | with_reducible refine Le.g ?_
    | with_reducible refine Le.s (fun _ => ?_) (fun _ => ?_)
    | with_reducible refine Le.c ?_ (fun _ => ?_)
    | with_reducible assumption
    | with_reducible apply mF_cmp_isNaN_int
    | with_reducible refine Le.bnd ?_
    | with_reducible intro _
theorem mF_cmp_Compare_int (x305 : Int) (x306 : Int) : Le (Fm_cmp_Compare_int x305 x306) (F_cmp_Compare_int x305 x306) := by
  unfold Fm_cmp_Compare_int F_cmp_Compare_int
  apply mT_cmp_Compare_int
  all_goals assumption
theorem mS_slices_Compare_Sint_int_0 (x307 : (List (Int)) × ((List (Int)) × ((List (Int)) × (Int)))) (x308 : Int) : Le (Sm_slices_Compare_Sint_int_0 x307 x308).ev (S_slices_Compare_Sint_int_0 x307 x308).ev := by
  unfold Sm_slices_Compare_Sint_int_0 S_slices_Compare_Sint_int_0
  try dsimp only
  repeat' first
    | with_reducible exact Le.refl _
    | with_reducible exact Le.f _
    | with_reducible refine Le.t ?_ ?_
    | with_reducible refine Le.g ?_
    | with_reducible refine Le.s (fun _ => ?_) (fun _ => ?_)
    | with_reducible refine Le.c ?_ (fun _ => ?_)
    | with_reducible assumption
    | with_reducible apply mF_cmp_Compare_int
    | with_reducible refine Le.bnd ?_
    | with_reducible intro _
theorem mL_slices_Compare_Sint_int_0 (x309 : (List (Int)) × ((List (Int)) × ((List (Int)) × (Int)))) (x310 : Int) : Le (Lm_slices_Compare_Sint_int_0 x309 x310) (L_slices_Compare_Sint_int_0 x309 x310) := by
  unfold Lm_slices_Compare_Sint_int_0 L_slices_Compare_Sint_int_0
  refine Le.it (fun v => ?_) _ _
  apply mS_slices_Compare_Sint_int_0
  all_goals assumption
theorem mT_slices_Compare_Sint_int (x311 : List (Int)) (x312 : List (Int)) : Le (Tm_slices_Compare_Sint_int x311 x312).ev (T_slices_Compare_Sint_int x311 x312).ev := by
  unfold Tm_slices_Compare_Sint_int T_slices_Compare_Sint_int
  try dsimp only
  repeat' first
    | with_reducible exact Le.refl _
    | with_reducible exact Le.f _
    | with_reducible refine Le.t ?_ ?_
    | with_reducible refine Le.g ?_
    | with_reducible refine Le.s (fun _ => ?_) (fun _ => ?_)
    | with_reducible refine Le.c ?_ (fun _ => ?_)
    | with_reducible assumption
    | with_reducible apply mL_slices_Compare_Sint_int_0
    | with_reducible refine Le.bnd ?_
    | with_reducible intro _
theorem mF_slices_Compare_Sint_int (x313 : List (Int)) (x314 : List (Int)) : Le (Fm_slices_Compare_Sint_int x313 x314) (F_slices_Compare_Sint_int x313 x314) := by
  unfold Fm_slices_Compare_Sint_int F_slices_Compare_Sint_int
  apply mT_slices_Compare_Sint_int
  all_goals assumption
theorem mS_cmp_Or_int_0 (x315 : (Int) × ((List (Int)) × (Int))) (x316 : Int) : Le (Sm_cmp_Or_int_0 x315 x316).ev (S_cmp_Or_int_0 x315 x316).ev := by
  unfold Sm_cmp_Or_int_0 S_cmp_Or_int_0
  try dsimp only
  repeat' first
    | with_reducible exact Le.refl _
    | with_reducible exact Le.f _
    | with_reducible refine Le.t ?_ ?_
    | with_reducible refine Le.g ?_
    | with_reducible refine Le.s (fun _ => ?_) (fun _ => ?_)
    | with_reducible refine Le.c ?_ (fun _ => ?_)
    | with_reducible assumption
    | with_reducible refine Le.bnd ?_
    | with_reducible intro _
theorem mL_cmp_Or_int_0 (x317 : (Int) × ((List (Int)) × (Int))) (x318 : Int) : Le (Lm_cmp_Or_int_0 x317 x318) (L_cmp_Or_int_0 x317 x318) := by
  unfold Lm_cmp_Or_int_0 L_cmp_Or_int_0
  refine Le.it (fun v => ?_) _ _
  apply mS_cmp_Or_int_0
  all_goals assumption
theorem mT_cmp_Or_int (x319 : List (Int)) : Le (Tm_cmp_Or_int x319).ev (T_cmp_Or_int x319).ev := by
  unfold Tm_cmp_Or_int T_cmp_Or_int
  try dsimp only
  repeat' first
    | with_reducible exact Le.refl _
    | with_reducible exact Le.f _
    | with_reducible refine Le.t ?_ ?_
    | with_reducible refine Le.g ?_
    | with_reducible refine Le.s (fun _ => ?_) (fun _ => ?_)
    | with_reducible refine Le.c ?_ (fun _ => ?_)
    | with_reducible assumption
    | with_reducible apply mL_cmp_Or_int_0
    | with_reducible refine Le.bnd ?_
    | with_reducible intro _
theorem mF_cmp_Or_int (x320 : List (Int)) : Le (Fm_cmp_Or_int x320) (F_cmp_Or_int x320) := by
  unfold Fm_cmp_Or_int F_cmp_Or_int
  apply mT_cmp_Or_int
  all_goals assumption
theorem mT_im_compareSets (x321 : List (Int)) (x322 : List (Int)) : Le (Tm_im_compareSets x321 x322).ev (T_im_compareSets x321 x322).ev := by
  unfold Tm_im_compareSets T_im_compareSets
  try dsimp only
  repeat' first
    | with_reducible exact Le.refl _
    | with_reducible exact Le.f _
    | with_reducible refine Le.t ?_ ?_
    | with_reducible refine Le.g ?_
    | with_reducible refine Le.s (fun _ => ?_) (fun _ => ?_)
    | with_reducible refine Le.c ?_ (fun _ => ?_)
    | with_reducible assumption
    | with_reducible apply mF_cmp_Compare_int
    | with_reducible apply mF_slices_Compare_Sint_int
    | with_reducible apply mF_cmp_Or_int
    | with_reducible refine Le.bnd ?_
    | with_reducible intro _
theorem mF_im_compareSets (x323 : List (Int)) (x324 : List (Int)) : Le (Fm_im_compareSets x323 x324) (F_im_compareSets x323 x324) := by
  unfold Fm_im_compareSets F_im_compareSets
  apply mT_im_compareSets
  all_goals assumption
theorem mS_im_sets_0 (x325 : Int) (x326 : (Int) × (List (List (Int)))) : Le (Sm_im_sets_0 x325 x326).ev (S_im_sets_0 x325 x326).ev := by
  unfold Sm_im_sets_0 S_im_sets_0
  try dsimp only
  repeat' first
    | with_reducible exact Le.refl _
    | with_reducible exact Le.f _
    | with_reducible refine Le.t ?_ ?_
    | with_reducible refine Le.g ?_
    | with_reducible refine Le.s (fun _ => ?_) (fun _ => ?_)
    | with_reducible refine Le.c ?_ (fun _ => ?_)
    | with_reducible assumption
    | with_reducible apply mF_im_bag_list
    | with_reducible refine Le.bnd ?_
    | with_reducible intro _
theorem mL_im_sets_0 (x327 : Int) (x328 : (Int) × (List (List (Int)))) : Le (Lm_im_sets_0 x327 x328) (L_im_sets_0 x327 x328) := by
  unfold Lm_im_sets_0 L_im_sets_0
  refine Le.it (fun v => ?_) _ _
  apply mS_im_sets_0
  all_goals assumption
theorem mT_im_sets (x329 : Int) : Le (Tm_im_sets x329).ev (T_im_sets x329).ev := by
  unfold Tm_im_sets T_im_sets
  try dsimp only
  repeat' first
    | with_reducible exact Le.refl _
    | with_reducible exact Le.f _
    | with_reducible refine Le.t ?_ ?_
    | with_reducible refine Le.g ?_
    | with_reducible refine Le.s (fun _ => ?_) (fun _ => ?_)
    | with_reducible refine Le.c ?_ (fun _ => ?_)
    | with_reducible assumption
    | with_reducible apply mL_im_sets_0
    | with_reducible apply mF_slices_SortFunc_SSint_Sint
    | with_reducible apply mF_im_compareSets
    | with_reducible refine Le.bnd ?_
    | with_reducible intro _
theorem mF_im_sets (x330 : Int) : Le (Fm_im_sets x330) (F_im_sets x330) := by
  unfold Fm_im_sets F_im_sets
  apply mT_im_sets
  all_goals assumption
end Go.Proofs.Ytlmbhkmaflhagaa
