import Derived.Test.YtlemejhffpkbkaaEM1
namespace Go.Proofs.Ytlemejhffpkbkaa
theorem mS_sp_l1Put_0 (x1 : (List (Int)) × (Int)) (x2 : Int) : Le (Sm_sp_l1Put_0 x1 x2).ev (S_sp_l1Put_0 x1 x2).ev := by
  unfold Sm_sp_l1Put_0 S_sp_l1Put_0
  try dsimp only
  repeat' first
    | with_reducible exact Le.refl _
    | with_reducible exact Le.f _
    | with_reducible refine Le.t ?_ ?_
    | with_reducible refine Le.g ?_
    | with_reducible refine Le.s (fun _ => ?_) (fun _ => ?_)
    | with_reducible refine Le.c ?_ (fun _ => ?_)
    | with_reducible assumption
    | with_reducible refine Le.bnd ?_
    | with_reducible intro _
theorem mL_sp_l1Put_0 (x3 : (List (Int)) × (Int)) (x4 : Int) : Le (Lm_sp_l1Put_0 x3 x4) (L_sp_l1Put_0 x3 x4) := by
  unfold Lm_sp_l1Put_0 L_sp_l1Put_0
  refine Le.it (fun v => ?_) _ _
  apply mS_sp_l1Put_0
  all_goals assumption
theorem mT_sp_l1Put (x5 : List (Int)) (x6 : Int) : Le (Tm_sp_l1Put x5 x6).ev (T_sp_l1Put x5 x6).ev := by
  unfold Tm_sp_l1Put T_sp_l1Put
  try dsimp only
  repeat' first
    | with_reducible exact Le.refl _
    | with_reducible exact Le.f _
    | with_reducible refine Le.t ?_ ?_
    | with_reducible refine Le.g ?_
    | with_reducible refine Le.s (fun _ => ?_) (fun _ => ?_)
    | with_reducible refine Le.c ?_ (fun _ => ?_)
    | with_reducible assumption
    | with_reducible apply mL_sp_l1Put_0
    | with_reducible refine Le.bnd ?_
    | with_reducible intro _
theorem mF_sp_l1Put (x7 : List (Int)) (x8 : Int) : Le (Fm_sp_l1Put x7 x8) (F_sp_l1Put x7 x8) := by
  unfold Fm_sp_l1Put F_sp_l1Put
  apply mT_sp_l1Put
  all_goals assumption
theorem mT_math_bits_OnesCount64 (x9 : Int) : Le (Tm_math_bits_OnesCount64 x9).ev (T_math_bits_OnesCount64 x9).ev := by
  unfold Tm_math_bits_OnesCount64 T_math_bits_OnesCount64
  try dsimp only
  repeat' first
    | with_reducible exact Le.refl _
    | with_reducible exact Le.f _
    | with_reducible refine Le.t ?_ ?_
    | with_reducible refine Le.g ?_
    | with_reducible refine Le.s (fun _ => ?_) (fun _ => ?_)
    | with_reducible refine Le.c ?_ (fun _ => ?_)
    | with_reducible assumption
    | with_reducible refine Le.bnd ?_
    | with_reducible intro _
theorem mF_math_bits_OnesCount64 (x10 : Int) : Le (Fm_math_bits_OnesCount64 x10) (F_math_bits_OnesCount64 x10) := by
  unfold Fm_math_bits_OnesCount64 F_math_bits_OnesCount64
  apply mT_math_bits_OnesCount64
  all_goals assumption
theorem mT_math_bits_OnesCount (x11 : Int) : Le (Tm_math_bits_OnesCount x11).ev (T_math_bits_OnesCount x11).ev := by
  unfold Tm_math_bits_OnesCount T_math_bits_OnesCount
  try dsimp only
  repeat' first
    | with_reducible exact Le.refl _
    | with_reducible exact Le.f _
    | with_reducible refine Le.t ?_ ?_
    | with_reducible refine Le.g ?_
    | with_reducible refine Le.s (fun _ => ?_) (fun _ => ?_)
    | with_reducible refine Le.c ?_ (fun _ => ?_)
    | with_reducible assumption
    | with_reducible apply mF_math_bits_OnesCount64
    | with_reducible refine Le.bnd ?_
    | with_reducible intro _
theorem mF_math_bits_OnesCount (x12 : Int) : Le (Fm_math_bits_OnesCount x12) (F_math_bits_OnesCount x12) := by
  unfold Fm_math_bits_OnesCount F_math_bits_OnesCount
  apply mT_math_bits_OnesCount
  all_goals assumption
theorem mT_im_bag_size (x13 : Int) : Le (Tm_im_bag_size x13).ev (T_im_bag_size x13).ev := by
  unfold Tm_im_bag_size T_im_bag_size
  try dsimp only
  repeat' first
    | with_reducible exact Le.refl _
    | with_reducible exact Le.f _
    | with_reducible refine Le.t ?_ ?_
    | with_reducible refine Le.g ?_
    | with_reducible refine Le.s (fun _ => ?_) (fun _ => ?_)
    | with_reducible refine Le.c ?_ (fun _ => ?_)
    | with_reducible assumption
    | with_reducible apply mF_math_bits_OnesCount
    | with_reducible refine Le.bnd ?_
    | with_reducible intro _
theorem mF_im_bag_size (x14 : Int) : Le (Fm_im_bag_size x14) (F_im_bag_size x14) := by
  unfold Fm_im_bag_size F_im_bag_size
  apply mT_im_bag_size
  all_goals assumption
end Go.Proofs.Ytlemejhffpkbkaa
