import Derived.Test.YtlemejhffpkbkaaEM1
namespace Go.Proofs.Ytlemejhffpkbkaa
theorem mT_math_bits_OnesCount64 (x1 : Int) : Le (Tm_math_bits_OnesCount64 x1).ev (T_math_bits_OnesCount64 x1).ev := by
  unfold Tm_math_bits_OnesCount64 T_math_bits_OnesCount64
  try dsimp only
  repeat' first
    | with_reducible exact Le.refl _
    | with_reducible exact Le.f _
    | with_reducible refine Le.t ?_ ?_
    | with_reducible refine Le.g ?_
    | with_reducible refine Le.s (fun _ => ?_) (fun _ => ?_)
    | with_reducible refine Le.c ?_ (fun _ => ?_)
    | with_reducible assumption
    | with_reducible refine Le.bnd ?_
    | with_reducible intro _
theorem mF_math_bits_OnesCount64 (x2 : Int) : Le (Fm_math_bits_OnesCount64 x2) (F_math_bits_OnesCount64 x2) := by
  unfold Fm_math_bits_OnesCount64 F_math_bits_OnesCount64
  apply mT_math_bits_OnesCount64
  all_goals assumption
theorem mT_math_bits_OnesCount (x3 : Int) : Le (Tm_math_bits_OnesCount x3).ev (T_math_bits_OnesCount x3).ev := by
  unfold Tm_math_bits_OnesCount T_math_bits_OnesCount
  try dsimp only
  repeat' first
    | with_reducible exact Le.refl _
    | with_reducible exact Le.f _
    | with_reducible refine Le.t ?_ ?_
    | with_reducible refine Le.g ?_
    | with_reducible refine Le.s (fun _ => ?_) (fun _ => ?_)
    | with_reducible refine Le.c ?_ (fun _ => ?_)
    | with_reducible assumption
    | with_reducible apply mF_math_bits_OnesCount64
    | with_reducible refine Le.bnd ?_
    | with_reducible intro _
theorem mF_math_bits_OnesCount (x4 : Int) : Le (Fm_math_bits_OnesCount x4) (F_math_bits_OnesCount x4) := by
  unfold Fm_math_bits_OnesCount F_math_bits_OnesCount
  apply mT_math_bits_OnesCount
  all_goals assumption
theorem mT_im_bag_size (x5 : Int) : Le (Tm_im_bag_size x5).ev (T_im_bag_size x5).ev := by
  unfold Tm_im_bag_size T_im_bag_size
  try dsimp only
  repeat' first
    | with_reducible exact Le.refl _
    | with_reducible exact Le.f _
    | with_reducible refine Le.t ?_ ?_
    | with_reducible refine Le.g ?_
    | with_reducible refine Le.s (fun _ => ?_) (fun _ => ?_)
    | with_reducible refine Le.c ?_ (fun _ => ?_)
    | with_reducible assumption
    | with_reducible apply mF_math_bits_OnesCount
    | with_reducible refine Le.bnd ?_
    | with_reducible intro _
theorem mF_im_bag_size (x6 : Int) : Le (Fm_im_bag_size x6) (F_im_bag_size x6) := by
  unfold Fm_im_bag_size F_im_bag_size
  apply mT_im_bag_size
  all_goals assumption
theorem mS_sp_l1Put_0 (x7 : (List (Int)) × (Int)) (x8 : Int) : Le (Sm_sp_l1Put_0 x7 x8).ev (S_sp_l1Put_0 x7 x8).ev := by
  unfold Sm_sp_l1Put_0 S_sp_l1Put_0
  try dsimp only
  repeat' first
    | with_reducible exact Le.refl _
    | with_reducible exact Le.f _
    | with_reducible refine Le.t ?_ ?_
    | with_reducible refine Le.g ?_
    | with_reducible refine Le.s (fun _ => ?_) (fun _ => ?_)
    | with_reducible refine Le.c ?_ (fun _ => ?_)
    | with_reducible assumption
    | with_reducible refine Le.bnd ?_
    | with_reducible intro _
theorem mL_sp_l1Put_0 (x9 : (List (Int)) × (Int)) (x10 : Int) : Le (Lm_sp_l1Put_0 x9 x10) (L_sp_l1Put_0 x9 x10) := by
  unfold Lm_sp_l1Put_0 L_sp_l1Put_0
  refine Le.it (fun v => ?_) _ _
  apply mS_sp_l1Put_0
  all_goals assumption
theorem mT_sp_l1Put (x11 : List (Int)) (x12 : Int) : Le (Tm_sp_l1Put x11 x12).ev (T_sp_l1Put x11 x12).ev := by
  unfold Tm_sp_l1Put T_sp_l1Put
  try dsimp only
  repeat' first
    | with_reducible exact Le.refl _
    | with_reducible exact Le.f _
    | with_reducible refine Le.t ?_ ?_
    | with_reducible refine Le.g ?_
    | with_reducible refine Le.s (fun _ => ?_) (fun _ => ?_)
    | with_reducible refine Le.c ?_ (fun _ => ?_)
    | with_reducible assumption
    | with_reducible apply mL_sp_l1Put_0
    | with_reducible refine Le.bnd ?_
    | with_reducible intro _
theorem mF_sp_l1Put (x13 : List (Int)) (x14 : Int) : Le (Fm_sp_l1Put x13 x14) (F_sp_l1Put x13 x14) := by
  unfold Fm_sp_l1Put F_sp_l1Put
  apply mT_sp_l1Put
  all_goals assumption
end Go.Proofs.Ytlemejhffpkbkaa
