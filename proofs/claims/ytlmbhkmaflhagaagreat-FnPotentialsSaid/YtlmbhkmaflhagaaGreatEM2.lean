import Derived.Test.YtlmbhkmaflhagaaGreatEM1
namespace Go.Proofs.YtlmbhkmaflhagaaGreat
theorem mS_zcs_0 (x1 : Int × Int) (x2 : Int × Y1) : Le (Sm_zcs_0 x1 x2).ev (S_zcs_0 x1 x2).ev := by
  unfold Sm_zcs_0 S_zcs_0
  try dsimp only
  repeat' first
    | with_reducible exact Le.refl _
    | with_reducible exact Le.f _
    | with_reducible refine Le.t ?_ ?_
    | with_reducible refine Le.g ?_
    | with_reducible refine Le.s (fun _ => ?_) (fun _ => ?_)
    | with_reducible refine Le.c ?_ (fun _ => ?_)
    | with_reducible assumption
    | with_reducible refine Le.bnd ?_
    | with_reducible intro _
theorem mL_zcs_0 (x3 : Int × Int) (x4 : Int × Y1) : Le (Lm_zcs_0 x3 x4) (L_zcs_0 x3 x4) := by
  unfold Lm_zcs_0 L_zcs_0
  refine Le.it (fun v => ?_) _ _
  apply mS_zcs_0
  all_goals assumption
theorem mT_zcs (x5 : Int) (x6 : Int) : Le (Tm_zcs x5 x6).ev (T_zcs x5 x6).ev := by
  unfold Tm_zcs T_zcs
  try dsimp only
  repeat' first
    | with_reducible exact Le.refl _
    | with_reducible exact Le.f _
    | with_reducible refine Le.t ?_ ?_
    | with_reducible refine Le.g ?_
    | with_reducible refine Le.s (fun _ => ?_) (fun _ => ?_)
    | with_reducible refine Le.c ?_ (fun _ => ?_)
    | with_reducible assumption
    | with_reducible apply mL_zcs_0
    | with_reducible refine Le.bnd ?_
    | with_reducible intro _
theorem mF_zcs (x7 : Int) (x8 : Int) : Le (Fm_zcs x7 x8) (F_zcs x7 x8) := by
  unfold Fm_zcs F_zcs
  apply mT_zcs
  all_goals assumption
theorem mS_zcr_0 (x9 : Y1 × Y1) (x10 : Int) : Le (Sm_zcr_0 x9 x10).ev (S_zcr_0 x9 x10).ev := by
  unfold Sm_zcr_0 S_zcr_0
  try dsimp only
  repeat' first
    | with_reducible exact Le.refl _
    | with_reducible exact Le.f _
    | with_reducible refine Le.t ?_ ?_
    | with_reducible refine Le.g ?_
    | with_reducible refine Le.s (fun _ => ?_) (fun _ => ?_)
    | with_reducible refine Le.c ?_ (fun _ => ?_)
    | with_reducible assumption
    | with_reducible refine Le.bnd ?_
    | with_reducible intro _
theorem mL_zcr_0 (x11 : Y1 × Y1) (x12 : Int) : Le (Lm_zcr_0 x11 x12) (L_zcr_0 x11 x12) := by
  unfold Lm_zcr_0 L_zcr_0
  refine Le.it (fun v => ?_) _ _
  apply mS_zcr_0
  all_goals assumption
theorem mT_zcr (x13 : Y1) (x14 : Y1) : Le (Tm_zcr x13 x14).ev (T_zcr x13 x14).ev := by
  unfold Tm_zcr T_zcr
  try dsimp only
  repeat' first
    | with_reducible exact Le.refl _
    | with_reducible exact Le.f _
    | with_reducible refine Le.t ?_ ?_
    | with_reducible refine Le.g ?_
    | with_reducible refine Le.s (fun _ => ?_) (fun _ => ?_)
    | with_reducible refine Le.c ?_ (fun _ => ?_)
    | with_reducible assumption
    | with_reducible apply mL_zcr_0
    | with_reducible refine Le.bnd ?_
    | with_reducible intro _
theorem mF_zcr (x15 : Y1) (x16 : Y1) : Le (Fm_zcr x15 x16) (F_zcr x15 x16) := by
  unfold Fm_zcr F_zcr
  apply mT_zcr
  all_goals assumption
theorem mS_zcw_2 (x17 : Int × (Y2 × (Int × Y1))) (x18 : Int) : Le (Sm_zcw_2 x17 x18).ev (S_zcw_2 x17 x18).ev := by
  unfold Sm_zcw_2 S_zcw_2
  try dsimp only
  repeat' first
    | with_reducible exact Le.refl _
    | with_reducible exact Le.f _
    | with_reducible refine Le.t ?_ ?_
    | with_reducible refine Le.g ?_
    | with_reducible refine Le.s (fun _ => ?_) (fun _ => ?_)
    | with_reducible refine Le.c ?_ (fun _ => ?_)
    | with_reducible assumption
    | with_reducible apply mF_zcr
    | with_reducible refine Le.bnd ?_
    | with_reducible intro _
theorem mL_zcw_2 (x19 : Int × (Y2 × (Int × Y1))) (x20 : Int) : Le (Lm_zcw_2 x19 x20) (L_zcw_2 x19 x20) := by
  unfold Lm_zcw_2 L_zcw_2
  refine Le.it (fun v => ?_) _ _
  apply mS_zcw_2
  all_goals assumption
theorem mS_zcw_0 (x21 : Int) (x22 : Y2 × Int) : Le (Sm_zcw_0 x21 x22).ev (S_zcw_0 x21 x22).ev := by
  unfold Sm_zcw_0 S_zcw_0
  try dsimp only
  repeat' first
    | with_reducible exact Le.refl _
    | with_reducible exact Le.f _
    | with_reducible refine Le.t ?_ ?_
    | with_reducible refine Le.g ?_
    | with_reducible refine Le.s (fun _ => ?_) (fun _ => ?_)
    | with_reducible refine Le.c ?_ (fun _ => ?_)
    | with_reducible assumption
    | with_reducible apply mF_zcs
    | with_reducible apply mL_zcw_2
    | with_reducible refine Le.bnd ?_
    | with_reducible intro _
theorem mL_zcw_0 (x23 : Int) (x24 : Y2 × Int) : Le (Lm_zcw_0 x23 x24) (L_zcw_0 x23 x24) := by
  unfold Lm_zcw_0 L_zcw_0
  refine Le.it (fun v => ?_) _ _
  apply mS_zcw_0
  all_goals assumption
theorem mT_zcw (x25 : Int) : Le (Tm_zcw x25).ev (T_zcw x25).ev := by
  unfold Tm_zcw T_zcw
  try dsimp only
  repeat' first
    | with_reducible exact Le.refl _
    | with_reducible exact Le.f _
    | with_reducible refine Le.t ?_ ?_
    | with_reducible refine Le.g ?_
    | with_reducible refine Le.s (fun _ => ?_) (fun _ => ?_)
    | with_reducible refine Le.c ?_ (fun _ => ?_)
    | with_reducible assumption
    | with_reducible apply mL_zcw_0
    | with_reducible refine Le.bnd ?_
    | with_reducible intro _
theorem mF_zcw (x26 : Int) : Le (Fm_zcw x26) (F_zcw x26) := by
  unfold Fm_zcw F_zcw
  apply mT_zcw
  all_goals assumption
theorem mS_zcl_0 (x27 : Y1 × Int) (x28 : Int) : Le (Sm_zcl_0 x27 x28).ev (S_zcl_0 x27 x28).ev := by
  unfold Sm_zcl_0 S_zcl_0
  try dsimp only
  repeat' first
    | with_reducible exact Le.refl _
    | with_reducible exact Le.f _
    | with_reducible refine Le.t ?_ ?_
    | with_reducible refine Le.g ?_
    | with_reducible refine Le.s (fun _ => ?_) (fun _ => ?_)
    | with_reducible refine Le.c ?_ (fun _ => ?_)
    | with_reducible assumption
    | with_reducible refine Le.bnd ?_
    | with_reducible intro _
theorem mL_zcl_0 (x29 : Y1 × Int) (x30 : Int) : Le (Lm_zcl_0 x29 x30) (L_zcl_0 x29 x30) := by
  unfold Lm_zcl_0 L_zcl_0
  refine Le.it (fun v => ?_) _ _
  apply mS_zcl_0
  all_goals assumption
theorem mT_zcl (x31 : Y1) (x32 : Int) : Le (Tm_zcl x31 x32).ev (T_zcl x31 x32).ev := by
  unfold Tm_zcl T_zcl
  try dsimp only
  repeat' first
    | with_reducible exact Le.refl _
    | with_reducible exact Le.f _
    | with_reducible refine Le.t ?_ ?_
    | with_reducible refine Le.g ?_
    | with_reducible refine Le.s (fun _ => ?_) (fun _ => ?_)
    | with_reducible refine Le.c ?_ (fun _ => ?_)
    | with_reducible assumption
    | with_reducible apply mL_zcl_0
    | with_reducible refine Le.bnd ?_
    | with_reducible intro _
theorem mF_zcl (x33 : Y1) (x34 : Int) : Le (Fm_zcl x33 x34) (F_zcl x33 x34) := by
  unfold Fm_zcl F_zcl
  apply mT_zcl
  all_goals assumption
theorem mS_zbt_0 (x35 : Y1) (x36 : Int × Int) : Le (Sm_zbt_0 x35 x36).ev (S_zbt_0 x35 x36).ev := by
  unfold Sm_zbt_0 S_zbt_0
  try dsimp only
  repeat' first
    | with_reducible exact Le.refl _
    | with_reducible exact Le.f _
    | with_reducible refine Le.t ?_ ?_
    | with_reducible refine Le.g ?_
    | with_reducible refine Le.s (fun _ => ?_) (fun _ => ?_)
    | with_reducible refine Le.c ?_ (fun _ => ?_)
    | with_reducible assumption
    | with_reducible refine Le.bnd ?_
    | with_reducible intro _
theorem mL_zbt_0 (x37 : Y1) (x38 : Int × Int) : Le (Lm_zbt_0 x37 x38) (L_zbt_0 x37 x38) := by
  unfold Lm_zbt_0 L_zbt_0
  refine Le.it (fun v => ?_) _ _
  apply mS_zbt_0
  all_goals assumption
theorem mT_zbt (x39 : Y1) : Le (Tm_zbt x39).ev (T_zbt x39).ev := by
  unfold Tm_zbt T_zbt
  try dsimp only
  repeat' first
    | with_reducible exact Le.refl _
    | with_reducible exact Le.f _
    | with_reducible refine Le.t ?_ ?_
    | with_reducible refine Le.g ?_
    | with_reducible refine Le.s (fun _ => ?_) (fun _ => ?_)
    | with_reducible refine Le.c ?_ (fun _ => ?_)
    | with_reducible assumption
    | with_reducible apply mL_zbt_0
    | with_reducible refine Le.bnd ?_
    | with_reducible intro _
theorem mF_zbt (x40 : Y1) : Le (Fm_zbt x40) (F_zbt x40) := by
  unfold Fm_zbt F_zbt
  apply mT_zbt
  all_goals assumption
theorem mS_zaf_0 (x41 : Y1 × Int) (x42 : Int × Int) : Le (Sm_zaf_0 x41 x42).ev (S_zaf_0 x41 x42).ev := by
  unfold Sm_zaf_0 S_zaf_0
  try dsimp only
  repeat' first
    | with_reducible exact Le.refl _
    | with_reducible exact Le.f _
    | with_reducible refine Le.t ?_ ?_
    | with_reducible refine Le.g ?_
    | with_reducible refine Le.s (fun _ => ?_) (fun _ => ?_)
    | with_reducible refine Le.c ?_ (fun _ => ?_)
    | with_reducible assumption
    | with_reducible refine Le.bnd ?_
    | with_reducible intro _
theorem mL_zaf_0 (x43 : Y1 × Int) (x44 : Int × Int) : Le (Lm_zaf_0 x43 x44) (L_zaf_0 x43 x44) := by
  unfold Lm_zaf_0 L_zaf_0
  refine Le.it (fun v => ?_) _ _
  apply mS_zaf_0
  all_goals assumption
theorem mT_zaf (x45 : Y1) : Le (Tm_zaf x45).ev (T_zaf x45).ev := by
  unfold Tm_zaf T_zaf
  try dsimp only
  repeat' first
    | with_reducible exact Le.refl _
    | with_reducible exact Le.f _
    | with_reducible refine Le.t ?_ ?_
    | with_reducible refine Le.g ?_
    | with_reducible refine Le.s (fun _ => ?_) (fun _ => ?_)
    | with_reducible refine Le.c ?_ (fun _ => ?_)
    | with_reducible assumption
    | with_reducible apply mL_zaf_0
    | with_reducible refine Le.bnd ?_
    | with_reducible intro _
theorem mF_zaf (x46 : Y1) : Le (Fm_zaf x46) (F_zaf x46) := by
  unfold Fm_zaf F_zaf
  apply mT_zaf
  all_goals assumption
theorem mT_zag (x47 : Int) (x48 : Int) : Le (Tm_zag x47 x48).ev (T_zag x47 x48).ev := by
  unfold Tm_zag T_zag
  try dsimp only
  repeat' first
    | with_reducible exact Le.refl _
    | with_reducible exact Le.f _
    | with_reducible refine Le.t ?_ ?_
    | with_reducible refine Le.g ?_
    | with_reducible refine Le.s (fun _ => ?_) (fun _ => ?_)
    | with_reducible refine Le.c ?_ (fun _ => ?_)
    | with_reducible assumption
    | with_reducible refine Le.bnd ?_
    | with_reducible intro _
theorem mF_zag (x49 : Int) (x50 : Int) : Le (Fm_zag x49 x50) (F_zag x49 x50) := by
  unfold Fm_zag F_zag
  apply mT_zag
  all_goals assumption
theorem mS_zah_0 (x51 : Int) (x52 : Int × Y1) : Le (Sm_zah_0 x51 x52).ev (S_zah_0 x51 x52).ev := by
  unfold Sm_zah_0 S_zah_0
  try dsimp only
  repeat' first
    | with_reducible exact Le.refl _
    | with_reducible exact Le.f _
    | with_reducible refine Le.t ?_ ?_
    | with_reducible refine Le.g ?_
    | with_reducible refine Le.s (fun _ => ?_) (fun _ => ?_)
    | with_reducible refine Le.c ?_ (fun _ => ?_)
    | with_reducible assumption
    | with_reducible apply mF_zag
    | with_reducible refine Le.bnd ?_
    | with_reducible intro _
theorem mL_zah_0 (x53 : Int) (x54 : Int × Y1) : Le (Lm_zah_0 x53 x54) (L_zah_0 x53 x54) := by
  unfold Lm_zah_0 L_zah_0
  refine Le.it (fun v => ?_) _ _
  apply mS_zah_0
  all_goals assumption
theorem mT_zah (x55 : Int) : Le (Tm_zah x55).ev (T_zah x55).ev := by
  unfold Tm_zah T_zah
  try dsimp only
  repeat' first
    | with_reducible exact Le.refl _
    | with_reducible exact Le.f _
    | with_reducible refine Le.t ?_ ?_
    | with_reducible refine Le.g ?_
    | with_reducible refine Le.s (fun _ => ?_) (fun _ => ?_)
    | with_reducible refine Le.c ?_ (fun _ => ?_)
    | with_reducible assumption
    | with_reducible apply mL_zah_0
    | with_reducible refine Le.bnd ?_
    | with_reducible intro _
theorem mF_zah (x56 : Int) : Le (Fm_zah x56) (F_zah x56) := by
  unfold Fm_zah F_zah
  apply mT_zah
  all_goals assumption
theorem mT_zau (x57 : Int) : Le (Tm_zau x57).ev (T_zau x57).ev := by
  unfold Tm_zau T_zau
  try dsimp only
  repeat' first
    | with_reducible exact Le.refl _
    | with_reducible exact Le.f _
    | with_reducible refine Le.t ?_ ?_
    | with_reducible refine Le.g ?_
    | with_reducible refine Le.s (fun _ => ?_) (fun _ => ?_)
    | with_reducible refine Le.c ?_ (fun _ => ?_)
    | with_reducible assumption
    | with_reducible refine Le.bnd ?_
    | with_reducible intro _
theorem mF_zau (x58 : Int) : Le (Fm_zau x58) (F_zau x58) := by
  unfold Fm_zau F_zau
  apply mT_zau
  all_goals assumption
theorem mT_zat (x59 : Int) : Le (Tm_zat x59).ev (T_zat x59).ev := by
  unfold Tm_zat T_zat
  try dsimp only
  repeat' first
    | with_reducible exact Le.refl _
    | with_reducible exact Le.f _
    | with_reducible refine Le.t ?_ ?_
    | with_reducible refine Le.g ?_
    | with_reducible refine Le.s (fun _ => ?_) (fun _ => ?_)
    | with_reducible refine Le.c ?_ (fun _ => ?_)
    | with_reducible assumption
    | with_reducible apply mF_zau
    | with_reducible refine Le.bnd ?_
    | with_reducible intro _
theorem mF_zat (x60 : Int) : Le (Fm_zat x60) (F_zat x60) := by
  unfold Fm_zat F_zat
  apply mT_zat
  all_goals assumption
theorem mS_zbi_2 (c61 : (Int)) (c62 : (Int)) (q63 q64 : ((HL [y1, y1] → Option (Int)))) (hq65 : ∀ h, Le (q63 h) (q64 h)) (c66 : Int) (x67 : Int × Y2) : Le (Sm_zbi_2 (c61, (c62, (q63, c66))) x67).ev (S_zbi_2 (c61, (c62, (q64, c66))) x67).ev := by
  unfold Sm_zbi_2 S_zbi_2
  try dsimp only
  repeat' first
    | with_reducible exact Le.refl _
    | with_reducible exact Le.f _
    | with_reducible refine Le.t ?_ ?_
    | with_reducible refine Le.g ?_
    | with_reducible refine Le.s (fun _ => ?_) (fun _ => ?_)
    | with_reducible refine Le.c ?_ (fun _ => ?_)
    | with_reducible assumption
    | with_reducible apply hq65
    | with_reducible refine Le.bnd ?_
    | with_reducible intro _
theorem mL_zbi_2 (c68 : (Int)) (c69 : (Int)) (q70 q71 : ((HL [y1, y1] → Option (Int)))) (hq72 : ∀ h, Le (q70 h) (q71 h)) (c73 : Int) (x74 : Int × Y2) : Le (Lm_zbi_2 (c68, (c69, (q70, c73))) x74) (L_zbi_2 (c68, (c69, (q71, c73))) x74) := by
  unfold Lm_zbi_2 L_zbi_2
  refine Le.it (fun v => ?_) _ _
  apply mS_zbi_2
  all_goals assumption
theorem mS_zbi_0 (c75 : (Int)) (c76 : (Int)) (q77 q78 : HL [y1, y1] → Option (Int)) (hq79 : ∀ h, Le (q77 h) (q78 h)) (x80 : Int × Y2) : Le (Sm_zbi_0 (c75, (c76, q77)) x80).ev (S_zbi_0 (c75, (c76, q78)) x80).ev := by
  unfold Sm_zbi_0 S_zbi_0
  try dsimp only
  repeat' first
    | with_reducible exact Le.refl _
    | with_reducible exact Le.f _
    | with_reducible refine Le.t ?_ ?_
    | with_reducible refine Le.g ?_
    | with_reducible refine Le.s (fun _ => ?_) (fun _ => ?_)
    | with_reducible refine Le.c ?_ (fun _ => ?_)
    | with_reducible assumption
    | with_reducible apply hq79
    | with_reducible apply mL_zbi_2
    | with_reducible refine Le.bnd ?_
    | with_reducible intro _
theorem mL_zbi_0 (c81 : (Int)) (c82 : (Int)) (q83 q84 : HL [y1, y1] → Option (Int)) (hq85 : ∀ h, Le (q83 h) (q84 h)) (x86 : Int × Y2) : Le (Lm_zbi_0 (c81, (c82, q83)) x86) (L_zbi_0 (c81, (c82, q84)) x86) := by
  unfold Lm_zbi_0 L_zbi_0
  refine Le.it (fun v => ?_) _ _
  apply mS_zbi_0
  all_goals assumption
theorem mT_zbi (x87 : Int) (x88 : Int) (q89 q90 : (HL [y1, y1] → Option (Int))) (hq91 : ∀ h, Le (q89 h) (q90 h)) (x92 : List Y1) : Le (Tm_zbi x87 x88 q89 x92).ev (T_zbi x87 x88 q90 x92).ev := by
  unfold Tm_zbi T_zbi
  try dsimp only
  repeat' first
    | with_reducible exact Le.refl _
    | with_reducible exact Le.f _
    | with_reducible refine Le.t ?_ ?_
    | with_reducible refine Le.g ?_
    | with_reducible refine Le.s (fun _ => ?_) (fun _ => ?_)
    | with_reducible refine Le.c ?_ (fun _ => ?_)
    | with_reducible assumption
    | with_reducible apply hq91
    | with_reducible apply mL_zbi_0
    | with_reducible refine Le.bnd ?_
    | with_reducible intro _
theorem mF_zbi (x93 : Int) (x94 : Int) (q95 q96 : (HL [y1, y1] → Option (Int))) (hq97 : ∀ h, Le (q95 h) (q96 h)) (x98 : List Y1) : Le (Fm_zbi x93 x94 q95 x98) (F_zbi x93 x94 q96 x98) := by
  unfold Fm_zbi F_zbi
  apply mT_zbi
  all_goals assumption
theorem mT_zbl (x99 : List Y1) (x100 : Int) (x101 : Int) (q102 q103 : (HL [y1, y1] → Option (Int))) (hq104 : ∀ h, Le (q102 h) (q103 h)) (x105 : Int) : Le (Tm_zbl x99 x100 x101 q102 x105).ev (T_zbl x99 x100 x101 q103 x105).ev := by
  unfold Tm_zbl T_zbl
  try dsimp only
  repeat' first
    | with_reducible exact Le.refl _
    | with_reducible exact Le.f _
    | with_reducible refine Le.t ?_ ?_
    | with_reducible refine Le.g ?_
    | with_reducible refine Le.s (fun _ => ?_) (fun _ => ?_)
    | with_reducible refine Le.c ?_ (fun _ => ?_)
    | with_reducible assumption
    | with_reducible apply hq104
    | with_reducible refine Le.bnd ?_
    | with_reducible intro _
theorem mF_zbl (x106 : List Y1) (x107 : Int) (x108 : Int) (q109 q110 : (HL [y1, y1] → Option (Int))) (hq111 : ∀ h, Le (q109 h) (q110 h)) (x112 : Int) : Le (Fm_zbl x106 x107 x108 q109 x112) (F_zbl x106 x107 x108 q110 x112) := by
  unfold Fm_zbl F_zbl
  apply mT_zbl
  all_goals assumption
theorem mT_zbk (x113 : List Y1) (x114 : Int) (x115 : Int) (x116 : Int) (q117 q118 : (HL [y1, y1] → Option (Int))) (hq119 : ∀ h, Le (q117 h) (q118 h)) (x120 : Int) : Le (Tm_zbk x113 x114 x115 x116 q117 x120).ev (T_zbk x113 x114 x115 x116 q118 x120).ev := by
  unfold Tm_zbk T_zbk
  try dsimp only
  repeat' first
    | with_reducible exact Le.refl _
    | with_reducible exact Le.f _
    | with_reducible refine Le.t ?_ ?_
    | with_reducible refine Le.g ?_
    | with_reducible refine Le.s (fun _ => ?_) (fun _ => ?_)
    | with_reducible refine Le.c ?_ (fun _ => ?_)
    | with_reducible assumption
    | with_reducible apply hq119
    | with_reducible apply mF_zbl
    | with_reducible refine Le.bnd ?_
    | with_reducible intro _
theorem mF_zbk (x121 : List Y1) (x122 : Int) (x123 : Int) (x124 : Int) (q125 q126 : (HL [y1, y1] → Option (Int))) (hq127 : ∀ h, Le (q125 h) (q126 h)) (x128 : Int) : Le (Fm_zbk x121 x122 x123 x124 q125 x128) (F_zbk x121 x122 x123 x124 q126 x128) := by
  unfold Fm_zbk F_zbk
  apply mT_zbk
  all_goals assumption
theorem mT_zbj (x129 : List Y1) (x130 : Int) (q131 q132 : (HL [y1, y1] → Option (Int))) (hq133 : ∀ h, Le (q131 h) (q132 h)) (x134 : Int) : Le (Tm_zbj x129 x130 q131 x134).ev (T_zbj x129 x130 q132 x134).ev := by
  unfold Tm_zbj T_zbj
  try dsimp only
  repeat' first
    | with_reducible exact Le.refl _
    | with_reducible exact Le.f _
    | with_reducible refine Le.t ?_ ?_
    | with_reducible refine Le.g ?_
    | with_reducible refine Le.s (fun _ => ?_) (fun _ => ?_)
    | with_reducible refine Le.c ?_ (fun _ => ?_)
    | with_reducible assumption
    | with_reducible apply hq133
    | with_reducible apply mF_zbk
    | with_reducible refine Le.bnd ?_
    | with_reducible intro _
theorem mF_zbj (x135 : List Y1) (x136 : Int) (q137 q138 : (HL [y1, y1] → Option (Int))) (hq139 : ∀ h, Le (q137 h) (q138 h)) (x140 : Int) : Le (Fm_zbj x135 x136 q137 x140) (F_zbj x135 x136 q138 x140) := by
  unfold Fm_zbj F_zbj
  apply mT_zbj
  all_goals assumption
theorem mT_zbh (x141 : List Y1) (x142 : Int) (x143 : Int) (q144 q145 : (HL [y1, y1] → Option (Int))) (hq146 : ∀ h, Le (q144 h) (q145 h)) : Le (Tm_zbh x141 x142 x143 q144).ev (T_zbh x141 x142 x143 q145).ev := by
  unfold Tm_zbh T_zbh
  try dsimp only
  repeat' first
    | with_reducible exact Le.refl _
    | with_reducible exact Le.f _
    | with_reducible refine Le.t ?_ ?_
    | with_reducible refine Le.g ?_
    | with_reducible refine Le.s (fun _ => ?_) (fun _ => ?_)
    | with_reducible refine Le.c ?_ (fun _ => ?_)
    | with_reducible assumption
    | with_reducible apply hq146
    | with_reducible apply mF_zbj
    | with_reducible apply mF_zbk
    | with_reducible refine Le.bnd ?_
    | with_reducible intro _
theorem mF_zbh (x147 : List Y1) (x148 : Int) (x149 : Int) (q150 q151 : (HL [y1, y1] → Option (Int))) (hq152 : ∀ h, Le (q150 h) (q151 h)) : Le (Fm_zbh x147 x148 x149 q150) (F_zbh x147 x148 x149 q151) := by
  unfold Fm_zbh F_zbh
  apply mT_zbh
  all_goals assumption
theorem mS_zbm_0 (c153 : (Int)) (q154 q155 : ((HL [y1, y1] → Option (Int)))) (hq156 : ∀ h, Le (q154 h) (q155 h)) (c157 : (Int)) (c158 : List Y1) (x159 : Int) : Le (Sm_zbm_0 (c153, (q154, (c157, c158))) x159).ev (S_zbm_0 (c153, (q155, (c157, c158))) x159).ev := by
  unfold Sm_zbm_0 S_zbm_0
  try dsimp only
  repeat' first
    | with_reducible exact Le.refl _
    | with_reducible exact Le.f _
    | with_reducible refine Le.t ?_ ?_
    | with_reducible refine Le.g ?_
    | with_reducible refine Le.s (fun _ => ?_) (fun _ => ?_)
    | with_reducible refine Le.c ?_ (fun _ => ?_)
    | with_reducible assumption
    | with_reducible apply hq156
    | with_reducible refine Le.bnd ?_
    | with_reducible intro _
theorem mL_zbm_0 (c160 : (Int)) (q161 q162 : ((HL [y1, y1] → Option (Int)))) (hq163 : ∀ h, Le (q161 h) (q162 h)) (c164 : (Int)) (c165 : List Y1) (x166 : Int) : Le (Lm_zbm_0 (c160, (q161, (c164, c165))) x166) (L_zbm_0 (c160, (q162, (c164, c165))) x166) := by
  unfold Lm_zbm_0 L_zbm_0
  refine Le.it (fun v => ?_) _ _
  apply mS_zbm_0
  all_goals assumption
theorem mS_zbm_2 (c167 : (Int)) (q168 q169 : ((HL [y1, y1] → Option (Int)))) (hq170 : ∀ h, Le (q168 h) (q169 h)) (c171 : (Int)) (c172 : List Y1) (x173 : Int) : Le (Sm_zbm_2 (c167, (q168, (c171, c172))) x173).ev (S_zbm_2 (c167, (q169, (c171, c172))) x173).ev := by
  unfold Sm_zbm_2 S_zbm_2
  try dsimp only
  repeat' first
    | with_reducible exact Le.refl _
    | with_reducible exact Le.f _
    | with_reducible refine Le.t ?_ ?_
    | with_reducible refine Le.g ?_
    | with_reducible refine Le.s (fun _ => ?_) (fun _ => ?_)
    | with_reducible refine Le.c ?_ (fun _ => ?_)
    | with_reducible assumption
    | with_reducible apply hq170
    | with_reducible refine Le.bnd ?_
    | with_reducible intro _
theorem mL_zbm_2 (c174 : (Int)) (q175 q176 : ((HL [y1, y1] → Option (Int)))) (hq177 : ∀ h, Le (q175 h) (q176 h)) (c178 : (Int)) (c179 : List Y1) (x180 : Int) : Le (Lm_zbm_2 (c174, (q175, (c178, c179))) x180) (L_zbm_2 (c174, (q176, (c178, c179))) x180) := by
  unfold Lm_zbm_2 L_zbm_2
  refine Le.it (fun v => ?_) _ _
  apply mS_zbm_2
  all_goals assumption
theorem mS_zbm_6 (c181 : (Int)) (q182 q183 : ((HL [y1, y1] → Option (Int)))) (hq184 : ∀ h, Le (q182 h) (q183 h)) (c185 : (Int)) (c186 : List Y1) (x187 : Int) : Le (Sm_zbm_6 (c181, (q182, (c185, c186))) x187).ev (S_zbm_6 (c181, (q183, (c185, c186))) x187).ev := by
  unfold Sm_zbm_6 S_zbm_6
  try dsimp only
  repeat' first
    | with_reducible exact Le.refl _
    | with_reducible exact Le.f _
    | with_reducible refine Le.t ?_ ?_
    | with_reducible refine Le.g ?_
    | with_reducible refine Le.s (fun _ => ?_) (fun _ => ?_)
    | with_reducible refine Le.c ?_ (fun _ => ?_)
    | with_reducible assumption
    | with_reducible apply hq184
    | with_reducible refine Le.bnd ?_
    | with_reducible intro _
theorem mL_zbm_6 (c188 : (Int)) (q189 q190 : ((HL [y1, y1] → Option (Int)))) (hq191 : ∀ h, Le (q189 h) (q190 h)) (c192 : (Int)) (c193 : List Y1) (x194 : Int) : Le (Lm_zbm_6 (c188, (q189, (c192, c193))) x194) (L_zbm_6 (c188, (q190, (c192, c193))) x194) := by
  unfold Lm_zbm_6 L_zbm_6
  refine Le.it (fun v => ?_) _ _
  apply mS_zbm_6
  all_goals assumption
theorem mS_zbm_8 (c195 : (Int)) (q196 q197 : ((HL [y1, y1] → Option (Int)))) (hq198 : ∀ h, Le (q196 h) (q197 h)) (c199 : (Int)) (c200 : List Y1) (x201 : Int) : Le (Sm_zbm_8 (c195, (q196, (c199, c200))) x201).ev (S_zbm_8 (c195, (q197, (c199, c200))) x201).ev := by
  unfold Sm_zbm_8 S_zbm_8
  try dsimp only
  repeat' first
    | with_reducible exact Le.refl _
    | with_reducible exact Le.f _
    | with_reducible refine Le.t ?_ ?_
    | with_reducible refine Le.g ?_
    | with_reducible refine Le.s (fun _ => ?_) (fun _ => ?_)
    | with_reducible refine Le.c ?_ (fun _ => ?_)
    | with_reducible assumption
    | with_reducible apply hq198
    | with_reducible refine Le.bnd ?_
    | with_reducible intro _
theorem mL_zbm_8 (c202 : (Int)) (q203 q204 : ((HL [y1, y1] → Option (Int)))) (hq205 : ∀ h, Le (q203 h) (q204 h)) (c206 : (Int)) (c207 : List Y1) (x208 : Int) : Le (Lm_zbm_8 (c202, (q203, (c206, c207))) x208) (L_zbm_8 (c202, (q204, (c206, c207))) x208) := by
  unfold Lm_zbm_8 L_zbm_8
  refine Le.it (fun v => ?_) _ _
  apply mS_zbm_8
  all_goals assumption
theorem mS_zbm_4 (c209 : (Int)) (q210 q211 : HL [y1, y1] → Option (Int)) (hq212 : ∀ h, Le (q210 h) (q211 h)) (x213 : Int × (Int × Y2)) : Le (Sm_zbm_4 (c209, q210) x213).ev (S_zbm_4 (c209, q211) x213).ev := by
  unfold Sm_zbm_4 S_zbm_4
  try dsimp only
  repeat' first
    | with_reducible exact Le.refl _
    | with_reducible exact Le.f _
    | with_reducible refine Le.t ?_ ?_
    | with_reducible refine Le.g ?_
    | with_reducible refine Le.s (fun _ => ?_) (fun _ => ?_)
    | with_reducible refine Le.c ?_ (fun _ => ?_)
    | with_reducible assumption
    | with_reducible apply hq212
    | with_reducible apply mL_zbm_6
    | with_reducible apply mL_zbm_8
    | with_reducible refine Le.bnd ?_
    | with_reducible intro _
theorem mL_zbm_4 (c214 : (Int)) (q215 q216 : HL [y1, y1] → Option (Int)) (hq217 : ∀ h, Le (q215 h) (q216 h)) (x218 : Int × (Int × Y2)) : Le (Lm_zbm_4 (c214, q215) x218) (L_zbm_4 (c214, q216) x218) := by
  unfold Lm_zbm_4 L_zbm_4
  refine Le.it (fun v => ?_) _ _
  apply mS_zbm_4
  all_goals assumption
theorem mT_zbm (x219 : Int) (x220 : Int) (x221 : Int) (q222 q223 : (HL [y1, y1] → Option (Int))) (hq224 : ∀ h, Le (q222 h) (q223 h)) (x225 : List Y1) : Le (Tm_zbm x219 x220 x221 q222 x225).ev (T_zbm x219 x220 x221 q223 x225).ev := by
  unfold Tm_zbm T_zbm
  try dsimp only
  repeat' first
    | with_reducible exact Le.refl _
    | with_reducible exact Le.f _
    | with_reducible refine Le.t ?_ ?_
    | with_reducible refine Le.g ?_
    | with_reducible refine Le.s (fun _ => ?_) (fun _ => ?_)
    | with_reducible refine Le.c ?_ (fun _ => ?_)
    | with_reducible assumption
    | with_reducible apply hq224
    | with_reducible apply mL_zbm_0
    | with_reducible apply mL_zbm_2
    | with_reducible apply mL_zbm_4
    | with_reducible refine Le.bnd ?_
    | with_reducible intro _
theorem mF_zbm (x226 : Int) (x227 : Int) (x228 : Int) (q229 q230 : (HL [y1, y1] → Option (Int))) (hq231 : ∀ h, Le (q229 h) (q230 h)) (x232 : List Y1) : Le (Fm_zbm x226 x227 x228 q229 x232) (F_zbm x226 x227 x228 q230 x232) := by
  unfold Fm_zbm F_zbm
  apply mT_zbm
  all_goals assumption
theorem mS_zbn_0 (rec233 rec234 : (Int) → (Int) → (Int) → ((HL [y1, y1] → Option (Int))) → Y2 → Option Y2) (hr235 : ∀ (x236 : (Int)) (x237 : (Int)) (x238 : (Int)) (q239 q240 : ((HL [y1, y1] → Option (Int)))) (hq241 : ∀ h, Le (q239 h) (q240 h)) (x242 : Y2), Le (rec233 x236 x237 x238 q239 x242) (rec234 x236 x237 x238 q240 x242)) (c243 : (Int)) (q244 q245 : HL [y1, y1] → Option (Int)) (hq246 : ∀ h, Le (q244 h) (q245 h)) (x247 : Int × (Int × (Bool × (Bool × Y2)))) : Le (Sm_zbn_0 rec233 (c243, q244) x247).ev (S_zbn_0 rec234 (c243, q245) x247).ev := by
  unfold Sm_zbn_0 S_zbn_0
  try dsimp only
  repeat' first
    | with_reducible exact Le.refl _
    | with_reducible exact Le.f _
    | with_reducible refine Le.t ?_ ?_
    | with_reducible refine Le.g ?_
    | with_reducible refine Le.s (fun _ => ?_) (fun _ => ?_)
    | with_reducible refine Le.c ?_ (fun _ => ?_)
    | with_reducible assumption
    | with_reducible apply hr235
    | with_reducible apply hq246
    | with_reducible apply mF_zbi
    | with_reducible apply mF_zbh
    | with_reducible apply mF_zbm
    | with_reducible refine Le.bnd ?_
    | with_reducible intro _
theorem mL_zbn_0 (rec248 rec249 : (Int) → (Int) → (Int) → ((HL [y1, y1] → Option (Int))) → Y2 → Option Y2) (hr250 : ∀ (x251 : (Int)) (x252 : (Int)) (x253 : (Int)) (q254 q255 : ((HL [y1, y1] → Option (Int)))) (hq256 : ∀ h, Le (q254 h) (q255 h)) (x257 : Y2), Le (rec248 x251 x252 x253 q254 x257) (rec249 x251 x252 x253 q255 x257)) (c258 : (Int)) (q259 q260 : HL [y1, y1] → Option (Int)) (hq261 : ∀ h, Le (q259 h) (q260 h)) (x262 : Int × (Int × (Bool × (Bool × Y2)))) : Le (Lm_zbn_0 rec248 (c258, q259) x262) (L_zbn_0 rec249 (c258, q260) x262) := by
  unfold Lm_zbn_0 L_zbn_0
  refine Le.it (fun v => ?_) _ _
  apply mS_zbn_0
  all_goals assumption
theorem mT_zbn (rec263 rec264 : (Int) → (Int) → (Int) → ((HL [y1, y1] → Option (Int))) → Y2 → Option Y2) (hr265 : ∀ (x266 : (Int)) (x267 : (Int)) (x268 : (Int)) (q269 q270 : ((HL [y1, y1] → Option (Int)))) (hq271 : ∀ h, Le (q269 h) (q270 h)) (x272 : Y2), Le (rec263 x266 x267 x268 q269 x272) (rec264 x266 x267 x268 q270 x272)) (x273 : Int) (x274 : Int) (x275 : Int) (q276 q277 : (HL [y1, y1] → Option (Int))) (hq278 : ∀ h, Le (q276 h) (q277 h)) (x279 : List Y1) : Le (Tm_zbn rec263 x273 x274 x275 q276 x279).ev (T_zbn rec264 x273 x274 x275 q277 x279).ev := by
  unfold Tm_zbn T_zbn
  try dsimp only
  repeat' first
    | with_reducible exact Le.refl _
    | with_reducible exact Le.f _
    | with_reducible refine Le.t ?_ ?_
    | with_reducible refine Le.g ?_
    | with_reducible refine Le.s (fun _ => ?_) (fun _ => ?_)
    | with_reducible refine Le.c ?_ (fun _ => ?_)
    | with_reducible assumption
    | with_reducible apply hr265
    | with_reducible apply hq278
    | with_reducible apply mL_zbn_0
    | with_reducible refine Le.bnd ?_
    | with_reducible intro _
theorem mF_zbn : ∀ (n : Nat) (x280 : (Int)) (x281 : (Int)) (x282 : (Int)) (q283 q284 : ((HL [y1, y1] → Option (Int)))) (hq285 : ∀ h, Le (q283 h) (q284 h)) (x286 : Y2), Le (Fm_zbn n x280 x281 x282 q283 x286) (F_zbn n x280 x281 x282 q284 x286)
  | 0 => by intros; exact Le.none _
  | n + 1 => by
    intros
    unfold Fm_zbn F_zbn
    apply mT_zbn
    · exact mF_zbn n
    all_goals assumption
theorem mT_zbg (q287 q288 : (HL [y1, y1] → Option (Int))) (hq289 : ∀ h, Le (q287 h) (q288 h)) (x290 : List Y1) : Le (Tm_zbg q287 x290).ev (T_zbg q288 x290).ev := by
  unfold Tm_zbg T_zbg
  try dsimp only
  repeat' first
    | with_reducible exact Le.refl _
    | with_reducible exact Le.f _
    | with_reducible refine Le.t ?_ ?_
    | with_reducible refine Le.g ?_
    | with_reducible refine Le.s (fun _ => ?_) (fun _ => ?_)
    | with_reducible refine Le.c ?_ (fun _ => ?_)
    | with_reducible assumption
    | with_reducible apply hq289
    | with_reducible apply mF_zat
    | with_reducible apply mF_zbn
    | with_reducible refine Le.bnd ?_
    | with_reducible intro _
theorem mF_zbg (q291 q292 : (HL [y1, y1] → Option (Int))) (hq293 : ∀ h, Le (q291 h) (q292 h)) (x294 : List Y1) : Le (Fm_zbg q291 x294) (F_zbg q292 x294) := by
  unfold Fm_zbg F_zbg
  apply mT_zbg
  all_goals assumption
theorem mT_zc (x295 : Int) : Le (Tm_zc x295).ev (T_zc x295).ev := by
  unfold Tm_zc T_zc
  try dsimp only
  repeat' first
    | with_reducible exact Le.refl _
    | with_reducible exact Le.f _
    | with_reducible refine Le.t ?_ ?_
    | with_reducible refine Le.g ?_
    | with_reducible refine Le.s (fun _ => ?_) (fun _ => ?_)
    | with_reducible refine Le.c ?_ (fun _ => ?_)
    | with_reducible assumption
    | with_reducible refine Le.bnd ?_
    | with_reducible intro _
theorem mF_zc (x296 : Int) : Le (Fm_zc x296) (F_zc x296) := by
  unfold Fm_zc F_zc
  apply mT_zc
  all_goals assumption
theorem mT_za (x297 : Int) (x298 : Int) : Le (Tm_za x297 x298).ev (T_za x297 x298).ev := by
  unfold Tm_za T_za
  try dsimp only
  repeat' first
    | with_reducible exact Le.refl _
    | with_reducible exact Le.f _
    | with_reducible refine Le.t ?_ ?_
    | with_reducible refine Le.g ?_
    | with_reducible refine Le.s (fun _ => ?_) (fun _ => ?_)
    | with_reducible refine Le.c ?_ (fun _ => ?_)
    | with_reducible assumption
    | with_reducible apply mF_zc
    | with_reducible refine Le.bnd ?_
    | with_reducible intro _
theorem mF_za (x299 : Int) (x300 : Int) : Le (Fm_za x299 x300) (F_za x299 x300) := by
  unfold Fm_za F_za
  apply mT_za
  all_goals assumption
theorem mS_zaw_0 (x301 : Y1 × (Y1 × (Y1 × Int))) (x302 : Int) : Le (Sm_zaw_0 x301 x302).ev (S_zaw_0 x301 x302).ev := by
  unfold Sm_zaw_0 S_zaw_0
  try dsimp only
  repeat' first
    | with_reducible exact Le.refl _
    | with_reducible exact Le.f _
    | with_reducible refine Le.t ?_ ?_
    | with_reducible refine Le.g ?_
    | with_reducible refine Le.s (fun _ => ?_) (fun _ => ?_)
    | with_reducible refine Le.c ?_ (fun _ => ?_)
    | with_reducible assumption
    | with_reducible apply mF_za
    | with_reducible refine Le.bnd ?_
    | with_reducible intro _
theorem mL_zaw_0 (x303 : Y1 × (Y1 × (Y1 × Int))) (x304 : Int) : Le (Lm_zaw_0 x303 x304) (L_zaw_0 x303 x304) := by
  unfold Lm_zaw_0 L_zaw_0
  refine Le.it (fun v => ?_) _ _
  apply mS_zaw_0
  all_goals assumption
theorem mT_zaw (x305 : Y1) (x306 : Y1) : Le (Tm_zaw x305 x306).ev (T_zaw x305 x306).ev := by
  unfold Tm_zaw T_zaw
  try dsimp only
  repeat' first
    | with_reducible exact Le.refl _
    | with_reducible exact Le.f _
    | with_reducible refine Le.t ?_ ?_
    | with_reducible refine Le.g ?_
    | with_reducible refine Le.s (fun _ => ?_) (fun _ => ?_)
    | with_reducible refine Le.c ?_ (fun _ => ?_)
    | with_reducible assumption
    | with_reducible apply mL_zaw_0
    | with_reducible refine Le.bnd ?_
    | with_reducible intro _
theorem mF_zaw (x307 : Y1) (x308 : Y1) : Le (Fm_zaw x307 x308) (F_zaw x307 x308) := by
  unfold Fm_zaw F_zaw
  apply mT_zaw
  all_goals assumption
theorem mS_zb_0 (x309 : Int × (Y1 × Int)) (x310 : Int) : Le (Sm_zb_0 x309 x310).ev (S_zb_0 x309 x310).ev := by
  unfold Sm_zb_0 S_zb_0
  try dsimp only
  repeat' first
    | with_reducible exact Le.refl _
    | with_reducible exact Le.f _
    | with_reducible refine Le.t ?_ ?_
    | with_reducible refine Le.g ?_
    | with_reducible refine Le.s (fun _ => ?_) (fun _ => ?_)
    | with_reducible refine Le.c ?_ (fun _ => ?_)
    | with_reducible assumption
    | with_reducible refine Le.bnd ?_
    | with_reducible intro _
theorem mL_zb_0 (x311 : Int × (Y1 × Int)) (x312 : Int) : Le (Lm_zb_0 x311 x312) (L_zb_0 x311 x312) := by
  unfold Lm_zb_0 L_zb_0
  refine Le.it (fun v => ?_) _ _
  apply mS_zb_0
  all_goals assumption
theorem mT_zb (x313 : Y1) : Le (Tm_zb x313).ev (T_zb x313).ev := by
  unfold Tm_zb T_zb
  try dsimp only
  repeat' first
    | with_reducible exact Le.refl _
    | with_reducible exact Le.f _
    | with_reducible refine Le.t ?_ ?_
    | with_reducible refine Le.g ?_
    | with_reducible refine Le.s (fun _ => ?_) (fun _ => ?_)
    | with_reducible refine Le.c ?_ (fun _ => ?_)
    | with_reducible assumption
    | with_reducible apply mL_zb_0
    | with_reducible refine Le.bnd ?_
    | with_reducible intro _
theorem mF_zb (x314 : Y1) : Le (Fm_zb x314) (F_zb x314) := by
  unfold Fm_zb F_zb
  apply mT_zb
  all_goals assumption
theorem mT_zaj (x315 : Y1) (x316 : Y1) : Le (Tm_zaj x315 x316).ev (T_zaj x315 x316).ev := by
  unfold Tm_zaj T_zaj
  try dsimp only
  repeat' first
    | with_reducible exact Le.refl _
    | with_reducible exact Le.f _
    | with_reducible refine Le.t ?_ ?_
    | with_reducible refine Le.g ?_
    | with_reducible refine Le.s (fun _ => ?_) (fun _ => ?_)
    | with_reducible refine Le.c ?_ (fun _ => ?_)
    | with_reducible assumption
    | with_reducible apply mF_za
    | with_reducible apply mF_zaw
    | with_reducible apply mF_zb
    | with_reducible refine Le.bnd ?_
    | with_reducible intro _
theorem mF_zaj (x317 : Y1) (x318 : Y1) : Le (Fm_zaj x317 x318) (F_zaj x317 x318) := by
  unfold Fm_zaj F_zaj
  apply mT_zaj
  all_goals assumption
theorem mS_zan_0 (x319 : Int) (x320 : Int × Y2) : Le (Sm_zan_0 x319 x320).ev (S_zan_0 x319 x320).ev := by
  unfold Sm_zan_0 S_zan_0
  try dsimp only
  repeat' first
    | with_reducible exact Le.refl _
    | with_reducible exact Le.f _
    | with_reducible refine Le.t ?_ ?_
    | with_reducible refine Le.g ?_
    | with_reducible refine Le.s (fun _ => ?_) (fun _ => ?_)
    | with_reducible refine Le.c ?_ (fun _ => ?_)
    | with_reducible assumption
    | with_reducible apply mF_zah
    | with_reducible refine Le.bnd ?_
    | with_reducible intro _
theorem mL_zan_0 (x321 : Int) (x322 : Int × Y2) : Le (Lm_zan_0 x321 x322) (L_zan_0 x321 x322) := by
  unfold Lm_zan_0 L_zan_0
  refine Le.it (fun v => ?_) _ _
  apply mS_zan_0
  all_goals assumption
theorem mT_zan (x323 : Int) : Le (Tm_zan x323).ev (T_zan x323).ev := by
  unfold Tm_zan T_zan
  try dsimp only
  repeat' first
    | with_reducible exact Le.refl _
    | with_reducible exact Le.f _
    | with_reducible refine Le.t ?_ ?_
    | with_reducible refine Le.g ?_
    | with_reducible refine Le.s (fun _ => ?_) (fun _ => ?_)
    | with_reducible refine Le.c ?_ (fun _ => ?_)
    | with_reducible assumption
    | with_reducible apply mL_zan_0
    | with_reducible apply mF_zbg
    | with_reducible apply mF_zaj
    | with_reducible refine Le.bnd ?_
    | with_reducible intro _
theorem mF_zan (x324 : Int) : Le (Fm_zan x324) (F_zan x324) := by
  unfold Fm_zan F_zan
  apply mT_zan
  all_goals assumption
end Go.Proofs.YtlmbhkmaflhagaaGreat
