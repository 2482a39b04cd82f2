import Derived.Test.YtnagpmhaddfgmaaEM1
namespace Go.Proofs.Ytnagpmhaddfgmaa
open List (length getD set)
open Int (toNat)
open IntKind (wrap)
theorem waoi (x1 : Int × Int) (x2 : Int × Y1) : Le (wrd x1 x2).ev (wfv x1 x2).ev := by
  unfold wrd wfv
  try dsimp only
  repeat' first
    | with_reducible exact Le.refl _
    | with_reducible exact Le.f _
    | with_reducible refine Le.t ?_ ?_
    | with_reducible refine Le.g ?_
    | with_reducible refine Le.s (fun _ => ?_) (fun _ => ?_)
    | with_reducible refine Le.c ?_ (fun _ => ?_)
    | with_reducible assumption
    | with_reducible refine Le.bnd ?_
    | with_reducible intro _
theorem waoj (x3 : Int × Int) (x4 : Int × Y1) : Le (wre x3 x4) (wqs x3 x4) := by
  unfold wre wqs
  refine Le.it (fun v => ?_) _ _
  apply waoi
  all_goals assumption
theorem wbgd (x5 : Int) (x6 : Int) : Le (wais x5 x6).ev (wafx x5 x6).ev := by
  unfold wais wafx
  try dsimp only
  repeat' first
    | with_reducible exact Le.refl _
    | with_reducible exact Le.f _
    | with_reducible refine Le.t ?_ ?_
    | with_reducible refine Le.g ?_
    | with_reducible refine Le.s (fun _ => ?_) (fun _ => ?_)
    | with_reducible refine Le.c ?_ (fun _ => ?_)
    | with_reducible assumption
    | with_reducible apply waoj
    | with_reducible refine Le.bnd ?_
    | with_reducible intro _
theorem wbge (x7 : Int) (x8 : Int) : Le (waiu x7 x8) (wsy x7 x8) := by
  unfold waiu wsy
  apply wbgd
  all_goals assumption
theorem waok (x9 : Y1 × Y1) (x10 : Int) : Le (wrf x9 x10).ev (wqu x9 x10).ev := by
  unfold wrf wqu
  try dsimp only
  repeat' first
    | with_reducible exact Le.refl _
    | with_reducible exact Le.f _
    | with_reducible refine Le.t ?_ ?_
    | with_reducible refine Le.g ?_
    | with_reducible refine Le.s (fun _ => ?_) (fun _ => ?_)
    | with_reducible refine Le.c ?_ (fun _ => ?_)
    | with_reducible assumption
    | with_reducible refine Le.bnd ?_
    | with_reducible intro _
theorem waol (x11 : Y1 × Y1) (x12 : Int) : Le (wrg x11 x12) (wvo x11 x12) := by
  unfold wrg wvo
  refine Le.it (fun v => ?_) _ _
  apply waok
  all_goals assumption
theorem wbgf (x13 : Y1) (x14 : Y1) : Le (waiv x13 x14).ev (wana x13 x14).ev := by
  unfold waiv wana
  try dsimp only
  repeat' first
    | with_reducible exact Le.refl _
    | with_reducible exact Le.f _
    | with_reducible refine Le.t ?_ ?_
    | with_reducible refine Le.g ?_
    | with_reducible refine Le.s (fun _ => ?_) (fun _ => ?_)
    | with_reducible refine Le.c ?_ (fun _ => ?_)
    | with_reducible assumption
    | with_reducible apply waol
    | with_reducible refine Le.bnd ?_
    | with_reducible intro _
theorem wbgg (x15 : Y1) (x16 : Y1) : Le (waiw x15 x16) (wanb x15 x16) := by
  unfold waiw wanb
  apply wbgf
  all_goals assumption
theorem waom (x17 : Int × (Y2 × (Int × Y1))) (x18 : Int) : Le (wrh x17 x18).ev (wqv x17 x18).ev := by
  unfold wrh wqv
  try dsimp only
  repeat' first
    | with_reducible exact Le.refl _
    | with_reducible exact Le.f _
    | with_reducible refine Le.t ?_ ?_
    | with_reducible refine Le.g ?_
    | with_reducible refine Le.s (fun _ => ?_) (fun _ => ?_)
    | with_reducible refine Le.c ?_ (fun _ => ?_)
    | with_reducible assumption
    | with_reducible apply wbgg
    | with_reducible refine Le.bnd ?_
    | with_reducible intro _
theorem waon (x19 : Int × (Y2 × (Int × Y1))) (x20 : Int) : Le (wri x19 x20) (wvp x19 x20) := by
  unfold wri wvp
  refine Le.it (fun v => ?_) _ _
  apply waom
  all_goals assumption
theorem waoo (x21 : Int) (x22 : Y2 × Int) : Le (wrj x21 x22).ev (wqw x21 x22).ev := by
  unfold wrj wqw
  try dsimp only
  repeat' first
    | with_reducible exact Le.refl _
    | with_reducible exact Le.f _
    | with_reducible refine Le.t ?_ ?_
    | with_reducible refine Le.g ?_
    | with_reducible refine Le.s (fun _ => ?_) (fun _ => ?_)
    | with_reducible refine Le.c ?_ (fun _ => ?_)
    | with_reducible assumption
    | with_reducible apply wbge
    | with_reducible apply waon
    | with_reducible refine Le.bnd ?_
    | with_reducible intro _
theorem waop (x23 : Int) (x24 : Y2 × Int) : Le (wrk x23 x24) (wvq x23 x24) := by
  unfold wrk wvq
  refine Le.it (fun v => ?_) _ _
  apply waoo
  all_goals assumption
theorem wbgh (x25 : Int) : Le (waix x25).ev (wanc x25).ev := by
  unfold waix wanc
  try dsimp only
  repeat' first
    | with_reducible exact Le.refl _
    | with_reducible exact Le.f _
    | with_reducible refine Le.t ?_ ?_
    | with_reducible refine Le.g ?_
    | with_reducible refine Le.s (fun _ => ?_) (fun _ => ?_)
    | with_reducible refine Le.c ?_ (fun _ => ?_)
    | with_reducible assumption
    | with_reducible apply waop
    | with_reducible refine Le.bnd ?_
    | with_reducible intro _
theorem wbgi (x26 : Int) : Le (waiy x26) (wagu x26) := by
  unfold waiy wagu
  apply wbgh
  all_goals assumption
end Go.Proofs.Ytnagpmhaddfgmaa
