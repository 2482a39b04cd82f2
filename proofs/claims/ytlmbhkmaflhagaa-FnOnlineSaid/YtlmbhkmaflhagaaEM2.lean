import Derived.Test.YtlmbhkmaflhagaaEM1
namespace Go.Proofs.Ytlmbhkmaflhagaa
theorem mT_zw (x1 : Int) (x2 : Int) : Le (Tm_zw x1 x2).ev (T_zw x1 x2).ev := by
  unfold Tm_zw T_zw
  try dsimp only
  repeat' first
    | with_reducible exact Le.refl _
    | with_reducible exact Le.f _
    | with_reducible refine Le.t ?_ ?_
    | with_reducible refine Le.g ?_
    | with_reducible refine Le.s (fun _ => ?_) (fun _ => ?_)
    | with_reducible refine Le.c ?_ (fun _ => ?_)
    | with_reducible assumption
    | with_reducible refine Le.bnd ?_
    | with_reducible intro _
theorem mF_zw (x3 : Int) (x4 : Int) : Le (Fm_zw x3 x4) (F_zw x3 x4) := by
  unfold Fm_zw F_zw
  apply mT_zw
  all_goals assumption
theorem mS_zx_0 (x5 : Int) (x6 : Int × Y1) : Le (Sm_zx_0 x5 x6).ev (S_zx_0 x5 x6).ev := by
  unfold Sm_zx_0 S_zx_0
  try dsimp only
  repeat' first
    | with_reducible exact Le.refl _
    | with_reducible exact Le.f _
    | with_reducible refine Le.t ?_ ?_
    | with_reducible refine Le.g ?_
    | with_reducible refine Le.s (fun _ => ?_) (fun _ => ?_)
    | with_reducible refine Le.c ?_ (fun _ => ?_)
    | with_reducible assumption
    | with_reducible apply mF_zw
    | with_reducible refine Le.bnd ?_
    | with_reducible intro _
theorem mL_zx_0 (x7 : Int) (x8 : Int × Y1) : Le (Lm_zx_0 x7 x8) (L_zx_0 x7 x8) := by
  unfold Lm_zx_0 L_zx_0
  refine Le.it (fun v => ?_) _ _
  apply mS_zx_0
  all_goals assumption
theorem mT_zx (x9 : Int) : Le (Tm_zx x9).ev (T_zx x9).ev := by
  unfold Tm_zx T_zx
  try dsimp only
  repeat' first
    | with_reducible exact Le.refl _
    | with_reducible exact Le.f _
    | with_reducible refine Le.t ?_ ?_
    | with_reducible refine Le.g ?_
    | with_reducible refine Le.s (fun _ => ?_) (fun _ => ?_)
    | with_reducible refine Le.c ?_ (fun _ => ?_)
    | with_reducible assumption
    | with_reducible apply mL_zx_0
    | with_reducible refine Le.bnd ?_
    | with_reducible intro _
theorem mF_zx (x10 : Int) : Le (Fm_zx x10) (F_zx x10) := by
  unfold Fm_zx F_zx
  apply mT_zx
  all_goals assumption
theorem mS_zbz_0 (x11 : Y1 × Int) (x12 : Int) : Le (Sm_zbz_0 x11 x12).ev (S_zbz_0 x11 x12).ev := by
  unfold Sm_zbz_0 S_zbz_0
  try dsimp only
  repeat' first
    | with_reducible exact Le.refl _
    | with_reducible exact Le.f _
    | with_reducible refine Le.t ?_ ?_
    | with_reducible refine Le.g ?_
    | with_reducible refine Le.s (fun _ => ?_) (fun _ => ?_)
    | with_reducible refine Le.c ?_ (fun _ => ?_)
    | with_reducible assumption
    | with_reducible refine Le.bnd ?_
    | with_reducible intro _
theorem mL_zbz_0 (x13 : Y1 × Int) (x14 : Int) : Le (Lm_zbz_0 x13 x14) (L_zbz_0 x13 x14) := by
  unfold Lm_zbz_0 L_zbz_0
  refine Le.it (fun v => ?_) _ _
  apply mS_zbz_0
  all_goals assumption
theorem mT_zbz (x15 : Y1) (x16 : Int) : Le (Tm_zbz x15 x16).ev (T_zbz x15 x16).ev := by
  unfold Tm_zbz T_zbz
  try dsimp only
  repeat' first
    | with_reducible exact Le.refl _
    | with_reducible exact Le.f _
    | with_reducible refine Le.t ?_ ?_
    | with_reducible refine Le.g ?_
    | with_reducible refine Le.s (fun _ => ?_) (fun _ => ?_)
    | with_reducible refine Le.c ?_ (fun _ => ?_)
    | with_reducible assumption
    | with_reducible apply mL_zbz_0
    | with_reducible refine Le.bnd ?_
    | with_reducible intro _
theorem mF_zbz (x17 : Y1) (x18 : Int) : Le (Fm_zbz x17 x18) (F_zbz x17 x18) := by
  unfold Fm_zbz F_zbz
  apply mT_zbz
  all_goals assumption
theorem mS_zbu_0 (x19 : Y1 × Int) (x20 : Int) : Le (Sm_zbu_0 x19 x20).ev (S_zbu_0 x19 x20).ev := by
  unfold Sm_zbu_0 S_zbu_0
  try dsimp only
  repeat' first
    | with_reducible exact Le.refl _
    | with_reducible exact Le.f _
    | with_reducible refine Le.t ?_ ?_
    | with_reducible refine Le.g ?_
    | with_reducible refine Le.s (fun _ => ?_) (fun _ => ?_)
    | with_reducible refine Le.c ?_ (fun _ => ?_)
    | with_reducible assumption
    | with_reducible refine Le.bnd ?_
    | with_reducible intro _
theorem mL_zbu_0 (x21 : Y1 × Int) (x22 : Int) : Le (Lm_zbu_0 x21 x22) (L_zbu_0 x21 x22) := by
  unfold Lm_zbu_0 L_zbu_0
  refine Le.it (fun v => ?_) _ _
  apply mS_zbu_0
  all_goals assumption
theorem mT_zbu (x23 : Y1) (x24 : Int) : Le (Tm_zbu x23 x24).ev (T_zbu x23 x24).ev := by
  unfold Tm_zbu T_zbu
  try dsimp only
  repeat' first
    | with_reducible exact Le.refl _
    | with_reducible exact Le.f _
    | with_reducible refine Le.t ?_ ?_
    | with_reducible refine Le.g ?_
    | with_reducible refine Le.s (fun _ => ?_) (fun _ => ?_)
    | with_reducible refine Le.c ?_ (fun _ => ?_)
    | with_reducible assumption
    | with_reducible apply mL_zbu_0
    | with_reducible refine Le.bnd ?_
    | with_reducible intro _
theorem mF_zbu (x25 : Y1) (x26 : Int) : Le (Fm_zbu x25 x26) (F_zbu x25 x26) := by
  unfold Fm_zbu F_zbu
  apply mT_zbu
  all_goals assumption
theorem mT_zam (x27 : Int) : Le (Tm_zam x27).ev (T_zam x27).ev := by
  unfold Tm_zam T_zam
  try dsimp only
  repeat' first
    | with_reducible exact Le.refl _
    | with_reducible exact Le.f _
    | with_reducible refine Le.t ?_ ?_
    | with_reducible refine Le.g ?_
    | with_reducible refine Le.s (fun _ => ?_) (fun _ => ?_)
    | with_reducible refine Le.c ?_ (fun _ => ?_)
    | with_reducible assumption
    | with_reducible refine Le.bnd ?_
    | with_reducible intro _
theorem mF_zam (x28 : Int) : Le (Fm_zam x28) (F_zam x28) := by
  unfold Fm_zam F_zam
  apply mT_zam
  all_goals assumption
theorem mT_zal (x29 : Int) : Le (Tm_zal x29).ev (T_zal x29).ev := by
  unfold Tm_zal T_zal
  try dsimp only
  repeat' first
    | with_reducible exact Le.refl _
    | with_reducible exact Le.f _
    | with_reducible refine Le.t ?_ ?_
    | with_reducible refine Le.g ?_
    | with_reducible refine Le.s (fun _ => ?_) (fun _ => ?_)
    | with_reducible refine Le.c ?_ (fun _ => ?_)
    | with_reducible assumption
    | with_reducible apply mF_zam
    | with_reducible refine Le.bnd ?_
    | with_reducible intro _
theorem mF_zal (x30 : Int) : Le (Fm_zal x30) (F_zal x30) := by
  unfold Fm_zal F_zal
  apply mT_zal
  all_goals assumption
theorem mS_zav_2 (c31 : (Int)) (c32 : (Int)) (q33 q34 : ((HL [y1, y1] → Option (Int)))) (hq35 : ∀ h, Le (q33 h) (q34 h)) (c36 : Int) (x37 : Int × Y2) : Le (Sm_zav_2 (c31, (c32, (q33, c36))) x37).ev (S_zav_2 (c31, (c32, (q34, c36))) x37).ev := by
  unfold Sm_zav_2 S_zav_2
  try dsimp only
  repeat' first
    | with_reducible exact Le.refl _
    | with_reducible exact Le.f _
    | with_reducible refine Le.t ?_ ?_
    | with_reducible refine Le.g ?_
    | with_reducible refine Le.s (fun _ => ?_) (fun _ => ?_)
    | with_reducible refine Le.c ?_ (fun _ => ?_)
    | with_reducible assumption
    | with_reducible apply hq35
    | with_reducible refine Le.bnd ?_
    | with_reducible intro _
theorem mL_zav_2 (c38 : (Int)) (c39 : (Int)) (q40 q41 : ((HL [y1, y1] → Option (Int)))) (hq42 : ∀ h, Le (q40 h) (q41 h)) (c43 : Int) (x44 : Int × Y2) : Le (Lm_zav_2 (c38, (c39, (q40, c43))) x44) (L_zav_2 (c38, (c39, (q41, c43))) x44) := by
  unfold Lm_zav_2 L_zav_2
  refine Le.it (fun v => ?_) _ _
  apply mS_zav_2
  all_goals assumption
theorem mS_zav_0 (c45 : (Int)) (c46 : (Int)) (q47 q48 : HL [y1, y1] → Option (Int)) (hq49 : ∀ h, Le (q47 h) (q48 h)) (x50 : Int × Y2) : Le (Sm_zav_0 (c45, (c46, q47)) x50).ev (S_zav_0 (c45, (c46, q48)) x50).ev := by
  unfold Sm_zav_0 S_zav_0
  try dsimp only
  repeat' first
    | with_reducible exact Le.refl _
    | with_reducible exact Le.f _
    | with_reducible refine Le.t ?_ ?_
    | with_reducible refine Le.g ?_
    | with_reducible refine Le.s (fun _ => ?_) (fun _ => ?_)
    | with_reducible refine Le.c ?_ (fun _ => ?_)
    | with_reducible assumption
    | with_reducible apply hq49
    | with_reducible apply mL_zav_2
    | with_reducible refine Le.bnd ?_
    | with_reducible intro _
theorem mL_zav_0 (c51 : (Int)) (c52 : (Int)) (q53 q54 : HL [y1, y1] → Option (Int)) (hq55 : ∀ h, Le (q53 h) (q54 h)) (x56 : Int × Y2) : Le (Lm_zav_0 (c51, (c52, q53)) x56) (L_zav_0 (c51, (c52, q54)) x56) := by
  unfold Lm_zav_0 L_zav_0
  refine Le.it (fun v => ?_) _ _
  apply mS_zav_0
  all_goals assumption
theorem mT_zav (x57 : Int) (x58 : Int) (q59 q60 : (HL [y1, y1] → Option (Int))) (hq61 : ∀ h, Le (q59 h) (q60 h)) (x62 : List Y1) : Le (Tm_zav x57 x58 q59 x62).ev (T_zav x57 x58 q60 x62).ev := by
  unfold Tm_zav T_zav
  try dsimp only
  repeat' first
    | with_reducible exact Le.refl _
    | with_reducible exact Le.f _
    | with_reducible refine Le.t ?_ ?_
    | with_reducible refine Le.g ?_
    | with_reducible refine Le.s (fun _ => ?_) (fun _ => ?_)
    | with_reducible refine Le.c ?_ (fun _ => ?_)
    | with_reducible assumption
    | with_reducible apply hq61
    | with_reducible apply mL_zav_0
    | with_reducible refine Le.bnd ?_
    | with_reducible intro _
theorem mF_zav (x63 : Int) (x64 : Int) (q65 q66 : (HL [y1, y1] → Option (Int))) (hq67 : ∀ h, Le (q65 h) (q66 h)) (x68 : List Y1) : Le (Fm_zav x63 x64 q65 x68) (F_zav x63 x64 q66 x68) := by
  unfold Fm_zav F_zav
  apply mT_zav
  all_goals assumption
theorem mT_zay (x69 : Int) : Le (Tm_zay x69).ev (T_zay x69).ev := by
  unfold Tm_zay T_zay
  try dsimp only
  repeat' first
    | with_reducible exact Le.refl _
    | with_reducible exact Le.f _
    | with_reducible refine Le.t ?_ ?_
    | with_reducible refine Le.g ?_
    | with_reducible refine Le.s (fun _ => ?_) (fun _ => ?_)
    | with_reducible refine Le.c ?_ (fun _ => ?_)
    | with_reducible assumption
    | with_reducible apply mF_zal
    | with_reducible refine Le.bnd ?_
    | with_reducible intro _
theorem mF_zay (x70 : Int) : Le (Fm_zay x70) (F_zay x70) := by
  unfold Fm_zay F_zay
  apply mT_zay
  all_goals assumption
theorem mT_zbc (x71 : Int) : Le (Tm_zbc x71).ev (T_zbc x71).ev := by
  unfold Tm_zbc T_zbc
  try dsimp only
  repeat' first
    | with_reducible exact Le.refl _
    | with_reducible exact Le.f _
    | with_reducible refine Le.t ?_ ?_
    | with_reducible refine Le.g ?_
    | with_reducible refine Le.s (fun _ => ?_) (fun _ => ?_)
    | with_reducible refine Le.c ?_ (fun _ => ?_)
    | with_reducible assumption
    | with_reducible refine Le.bnd ?_
    | with_reducible intro _
theorem mF_zbc (x72 : Int) : Le (Fm_zbc x72) (F_zbc x72) := by
  unfold Fm_zbc F_zbc
  apply mT_zbc
  all_goals assumption
theorem mS_zat_0 (x73 : Int × (Int × Int)) (x74 : Int × (Y2 × Int)) : Le (Sm_zat_0 x73 x74).ev (S_zat_0 x73 x74).ev := by
  unfold Sm_zat_0 S_zat_0
  try dsimp only
  repeat' first
    | with_reducible exact Le.refl _
    | with_reducible exact Le.f _
    | with_reducible refine Le.t ?_ ?_
    | with_reducible refine Le.g ?_
    | with_reducible refine Le.s (fun _ => ?_) (fun _ => ?_)
    | with_reducible refine Le.c ?_ (fun _ => ?_)
    | with_reducible assumption
    | with_reducible apply mF_zbc
    | with_reducible refine Le.bnd ?_
    | with_reducible intro _
theorem mL_zat_0 (x75 : Int × (Int × Int)) (x76 : Int × (Y2 × Int)) : Le (Lm_zat_0 x75 x76) (L_zat_0 x75 x76) := by
  unfold Lm_zat_0 L_zat_0
  refine Le.it (fun v => ?_) _ _
  apply mS_zat_0
  all_goals assumption
theorem mT_zat (x77 : Int) (x78 : Int) (q79 q80 : (HL [y1, y1] → Option (Int))) (hq81 : ∀ h, Le (q79 h) (q80 h)) (x82 : List Y1) : Le (Tm_zat x77 x78 q79 x82).ev (T_zat x77 x78 q80 x82).ev := by
  unfold Tm_zat T_zat
  try dsimp only
  repeat' first
    | with_reducible exact Le.refl _
    | with_reducible exact Le.f _
    | with_reducible refine Le.t ?_ ?_
    | with_reducible refine Le.g ?_
    | with_reducible refine Le.s (fun _ => ?_) (fun _ => ?_)
    | with_reducible refine Le.c ?_ (fun _ => ?_)
    | with_reducible assumption
    | with_reducible apply hq81
    | with_reducible apply mF_zay
    | with_reducible apply mL_zat_0
    | with_reducible refine Le.bnd ?_
    | with_reducible intro _
theorem mF_zat (x83 : Int) (x84 : Int) (q85 q86 : (HL [y1, y1] → Option (Int))) (hq87 : ∀ h, Le (q85 h) (q86 h)) (x88 : List Y1) : Le (Fm_zat x83 x84 q85 x88) (F_zat x83 x84 q86 x88) := by
  unfold Fm_zat F_zat
  apply mT_zat
  all_goals assumption
theorem mT_zaz (x89 : List Y1) (x90 : Int) (x91 : Int) (q92 q93 : (HL [y1, y1] → Option (Int))) (hq94 : ∀ h, Le (q92 h) (q93 h)) (x95 : Int) : Le (Tm_zaz x89 x90 x91 q92 x95).ev (T_zaz x89 x90 x91 q93 x95).ev := by
  unfold Tm_zaz T_zaz
  try dsimp only
  repeat' first
    | with_reducible exact Le.refl _
    | with_reducible exact Le.f _
    | with_reducible refine Le.t ?_ ?_
    | with_reducible refine Le.g ?_
    | with_reducible refine Le.s (fun _ => ?_) (fun _ => ?_)
    | with_reducible refine Le.c ?_ (fun _ => ?_)
    | with_reducible assumption
    | with_reducible apply hq94
    | with_reducible refine Le.bnd ?_
    | with_reducible intro _
theorem mF_zaz (x96 : List Y1) (x97 : Int) (x98 : Int) (q99 q100 : (HL [y1, y1] → Option (Int))) (hq101 : ∀ h, Le (q99 h) (q100 h)) (x102 : Int) : Le (Fm_zaz x96 x97 x98 q99 x102) (F_zaz x96 x97 x98 q100 x102) := by
  unfold Fm_zaz F_zaz
  apply mT_zaz
  all_goals assumption
theorem mT_zax (x103 : List Y1) (x104 : Int) (x105 : Int) (x106 : Int) (q107 q108 : (HL [y1, y1] → Option (Int))) (hq109 : ∀ h, Le (q107 h) (q108 h)) (x110 : Int) : Le (Tm_zax x103 x104 x105 x106 q107 x110).ev (T_zax x103 x104 x105 x106 q108 x110).ev := by
  unfold Tm_zax T_zax
  try dsimp only
  repeat' first
    | with_reducible exact Le.refl _
    | with_reducible exact Le.f _
    | with_reducible refine Le.t ?_ ?_
    | with_reducible refine Le.g ?_
    | with_reducible refine Le.s (fun _ => ?_) (fun _ => ?_)
    | with_reducible refine Le.c ?_ (fun _ => ?_)
    | with_reducible assumption
    | with_reducible apply hq109
    | with_reducible apply mF_zaz
    | with_reducible refine Le.bnd ?_
    | with_reducible intro _
theorem mF_zax (x111 : List Y1) (x112 : Int) (x113 : Int) (x114 : Int) (q115 q116 : (HL [y1, y1] → Option (Int))) (hq117 : ∀ h, Le (q115 h) (q116 h)) (x118 : Int) : Le (Fm_zax x111 x112 x113 x114 q115 x118) (F_zax x111 x112 x113 x114 q116 x118) := by
  unfold Fm_zax F_zax
  apply mT_zax
  all_goals assumption
theorem mT_zaw (x119 : List Y1) (x120 : Int) (q121 q122 : (HL [y1, y1] → Option (Int))) (hq123 : ∀ h, Le (q121 h) (q122 h)) (x124 : Int) : Le (Tm_zaw x119 x120 q121 x124).ev (T_zaw x119 x120 q122 x124).ev := by
  unfold Tm_zaw T_zaw
  try dsimp only
  repeat' first
    | with_reducible exact Le.refl _
    | with_reducible exact Le.f _
    | with_reducible refine Le.t ?_ ?_
    | with_reducible refine Le.g ?_
    | with_reducible refine Le.s (fun _ => ?_) (fun _ => ?_)
    | with_reducible refine Le.c ?_ (fun _ => ?_)
    | with_reducible assumption
    | with_reducible apply hq123
    | with_reducible apply mF_zax
    | with_reducible refine Le.bnd ?_
    | with_reducible intro _
theorem mF_zaw (x125 : List Y1) (x126 : Int) (q127 q128 : (HL [y1, y1] → Option (Int))) (hq129 : ∀ h, Le (q127 h) (q128 h)) (x130 : Int) : Le (Fm_zaw x125 x126 q127 x130) (F_zaw x125 x126 q128 x130) := by
  unfold Fm_zaw F_zaw
  apply mT_zaw
  all_goals assumption
theorem mT_zau (x131 : List Y1) (x132 : Int) (x133 : Int) (q134 q135 : (HL [y1, y1] → Option (Int))) (hq136 : ∀ h, Le (q134 h) (q135 h)) : Le (Tm_zau x131 x132 x133 q134).ev (T_zau x131 x132 x133 q135).ev := by
  unfold Tm_zau T_zau
  try dsimp only
  repeat' first
    | with_reducible exact Le.refl _
    | with_reducible exact Le.f _
    | with_reducible refine Le.t ?_ ?_
    | with_reducible refine Le.g ?_
    | with_reducible refine Le.s (fun _ => ?_) (fun _ => ?_)
    | with_reducible refine Le.c ?_ (fun _ => ?_)
    | with_reducible assumption
    | with_reducible apply hq136
    | with_reducible apply mF_zaw
    | with_reducible apply mF_zax
    | with_reducible refine Le.bnd ?_
    | with_reducible intro _
theorem mF_zau (x137 : List Y1) (x138 : Int) (x139 : Int) (q140 q141 : (HL [y1, y1] → Option (Int))) (hq142 : ∀ h, Le (q140 h) (q141 h)) : Le (Fm_zau x137 x138 x139 q140) (F_zau x137 x138 x139 q141) := by
  unfold Fm_zau F_zau
  apply mT_zau
  all_goals assumption
theorem mS_zba_0 (c143 : (Int)) (q144 q145 : ((HL [y1, y1] → Option (Int)))) (hq146 : ∀ h, Le (q144 h) (q145 h)) (c147 : (Int)) (c148 : List Y1) (x149 : Int) : Le (Sm_zba_0 (c143, (q144, (c147, c148))) x149).ev (S_zba_0 (c143, (q145, (c147, c148))) x149).ev := by
  unfold Sm_zba_0 S_zba_0
  try dsimp only
  repeat' first
    | with_reducible exact Le.refl _
    | with_reducible exact Le.f _
    | with_reducible refine Le.t ?_ ?_
    | with_reducible refine Le.g ?_
    | with_reducible refine Le.s (fun _ => ?_) (fun _ => ?_)
    | with_reducible refine Le.c ?_ (fun _ => ?_)
    | with_reducible assumption
    | with_reducible apply hq146
    | with_reducible refine Le.bnd ?_
    | with_reducible intro _
theorem mL_zba_0 (c150 : (Int)) (q151 q152 : ((HL [y1, y1] → Option (Int)))) (hq153 : ∀ h, Le (q151 h) (q152 h)) (c154 : (Int)) (c155 : List Y1) (x156 : Int) : Le (Lm_zba_0 (c150, (q151, (c154, c155))) x156) (L_zba_0 (c150, (q152, (c154, c155))) x156) := by
  unfold Lm_zba_0 L_zba_0
  refine Le.it (fun v => ?_) _ _
  apply mS_zba_0
  all_goals assumption
theorem mS_zba_2 (c157 : (Int)) (q158 q159 : ((HL [y1, y1] → Option (Int)))) (hq160 : ∀ h, Le (q158 h) (q159 h)) (c161 : (Int)) (c162 : List Y1) (x163 : Int) : Le (Sm_zba_2 (c157, (q158, (c161, c162))) x163).ev (S_zba_2 (c157, (q159, (c161, c162))) x163).ev := by
  unfold Sm_zba_2 S_zba_2
  try dsimp only
  repeat' first
    | with_reducible exact Le.refl _
    | with_reducible exact Le.f _
    | with_reducible refine Le.t ?_ ?_
    | with_reducible refine Le.g ?_
    | with_reducible refine Le.s (fun _ => ?_) (fun _ => ?_)
    | with_reducible refine Le.c ?_ (fun _ => ?_)
    | with_reducible assumption
    | with_reducible apply hq160
    | with_reducible refine Le.bnd ?_
    | with_reducible intro _
theorem mL_zba_2 (c164 : (Int)) (q165 q166 : ((HL [y1, y1] → Option (Int)))) (hq167 : ∀ h, Le (q165 h) (q166 h)) (c168 : (Int)) (c169 : List Y1) (x170 : Int) : Le (Lm_zba_2 (c164, (q165, (c168, c169))) x170) (L_zba_2 (c164, (q166, (c168, c169))) x170) := by
  unfold Lm_zba_2 L_zba_2
  refine Le.it (fun v => ?_) _ _
  apply mS_zba_2
  all_goals assumption
theorem mS_zba_6 (c171 : (Int)) (q172 q173 : ((HL [y1, y1] → Option (Int)))) (hq174 : ∀ h, Le (q172 h) (q173 h)) (c175 : (Int)) (c176 : List Y1) (x177 : Int) : Le (Sm_zba_6 (c171, (q172, (c175, c176))) x177).ev (S_zba_6 (c171, (q173, (c175, c176))) x177).ev := by
  unfold Sm_zba_6 S_zba_6
  try dsimp only
  repeat' first
    | with_reducible exact Le.refl _
    | with_reducible exact Le.f _
    | with_reducible refine Le.t ?_ ?_
    | with_reducible refine Le.g ?_
    | with_reducible refine Le.s (fun _ => ?_) (fun _ => ?_)
    | with_reducible refine Le.c ?_ (fun _ => ?_)
    | with_reducible assumption
    | with_reducible apply hq174
    | with_reducible refine Le.bnd ?_
    | with_reducible intro _
theorem mL_zba_6 (c178 : (Int)) (q179 q180 : ((HL [y1, y1] → Option (Int)))) (hq181 : ∀ h, Le (q179 h) (q180 h)) (c182 : (Int)) (c183 : List Y1) (x184 : Int) : Le (Lm_zba_6 (c178, (q179, (c182, c183))) x184) (L_zba_6 (c178, (q180, (c182, c183))) x184) := by
  unfold Lm_zba_6 L_zba_6
  refine Le.it (fun v => ?_) _ _
  apply mS_zba_6
  all_goals assumption
theorem mS_zba_8 (c185 : (Int)) (q186 q187 : ((HL [y1, y1] → Option (Int)))) (hq188 : ∀ h, Le (q186 h) (q187 h)) (c189 : (Int)) (c190 : List Y1) (x191 : Int) : Le (Sm_zba_8 (c185, (q186, (c189, c190))) x191).ev (S_zba_8 (c185, (q187, (c189, c190))) x191).ev := by
  unfold Sm_zba_8 S_zba_8
  try dsimp only
  repeat' first
    | with_reducible exact Le.refl _
    | with_reducible exact Le.f _
    | with_reducible refine Le.t ?_ ?_
    | with_reducible refine Le.g ?_
    | with_reducible refine Le.s (fun _ => ?_) (fun _ => ?_)
    | with_reducible refine Le.c ?_ (fun _ => ?_)
    | with_reducible assumption
    | with_reducible apply hq188
    | with_reducible refine Le.bnd ?_
    | with_reducible intro _
theorem mL_zba_8 (c192 : (Int)) (q193 q194 : ((HL [y1, y1] → Option (Int)))) (hq195 : ∀ h, Le (q193 h) (q194 h)) (c196 : (Int)) (c197 : List Y1) (x198 : Int) : Le (Lm_zba_8 (c192, (q193, (c196, c197))) x198) (L_zba_8 (c192, (q194, (c196, c197))) x198) := by
  unfold Lm_zba_8 L_zba_8
  refine Le.it (fun v => ?_) _ _
  apply mS_zba_8
  all_goals assumption
theorem mS_zba_4 (c199 : (Int)) (q200 q201 : HL [y1, y1] → Option (Int)) (hq202 : ∀ h, Le (q200 h) (q201 h)) (x203 : Int × (Int × Y2)) : Le (Sm_zba_4 (c199, q200) x203).ev (S_zba_4 (c199, q201) x203).ev := by
  unfold Sm_zba_4 S_zba_4
  try dsimp only
  repeat' first
    | with_reducible exact Le.refl _
    | with_reducible exact Le.f _
    | with_reducible refine Le.t ?_ ?_
    | with_reducible refine Le.g ?_
    | with_reducible refine Le.s (fun _ => ?_) (fun _ => ?_)
    | with_reducible refine Le.c ?_ (fun _ => ?_)
    | with_reducible assumption
    | with_reducible apply hq202
    | with_reducible apply mL_zba_6
    | with_reducible apply mL_zba_8
    | with_reducible refine Le.bnd ?_
    | with_reducible intro _
theorem mL_zba_4 (c204 : (Int)) (q205 q206 : HL [y1, y1] → Option (Int)) (hq207 : ∀ h, Le (q205 h) (q206 h)) (x208 : Int × (Int × Y2)) : Le (Lm_zba_4 (c204, q205) x208) (L_zba_4 (c204, q206) x208) := by
  unfold Lm_zba_4 L_zba_4
  refine Le.it (fun v => ?_) _ _
  apply mS_zba_4
  all_goals assumption
theorem mT_zba (x209 : Int) (x210 : Int) (x211 : Int) (q212 q213 : (HL [y1, y1] → Option (Int))) (hq214 : ∀ h, Le (q212 h) (q213 h)) (x215 : List Y1) : Le (Tm_zba x209 x210 x211 q212 x215).ev (T_zba x209 x210 x211 q213 x215).ev := by
  unfold Tm_zba T_zba
  try dsimp only
  repeat' first
    | with_reducible exact Le.refl _
    | with_reducible exact Le.f _
    | with_reducible refine Le.t ?_ ?_
    | with_reducible refine Le.g ?_
    | with_reducible refine Le.s (fun _ => ?_) (fun _ => ?_)
    | with_reducible refine Le.c ?_ (fun _ => ?_)
    | with_reducible assumption
    | with_reducible apply hq214
    | with_reducible apply mL_zba_0
    | with_reducible apply mL_zba_2
    | with_reducible apply mL_zba_4
    | with_reducible refine Le.bnd ?_
    | with_reducible intro _
theorem mF_zba (x216 : Int) (x217 : Int) (x218 : Int) (q219 q220 : (HL [y1, y1] → Option (Int))) (hq221 : ∀ h, Le (q219 h) (q220 h)) (x222 : List Y1) : Le (Fm_zba x216 x217 x218 q219 x222) (F_zba x216 x217 x218 q220 x222) := by
  unfold Fm_zba F_zba
  apply mT_zba
  all_goals assumption
theorem mS_zbb_0 (rec223 rec224 : (Int) → (Int) → (Int) → ((HL [y1, y1] → Option (Int))) → Y2 → Option Y2) (hr225 : ∀ (x226 : (Int)) (x227 : (Int)) (x228 : (Int)) (q229 q230 : ((HL [y1, y1] → Option (Int)))) (hq231 : ∀ h, Le (q229 h) (q230 h)) (x232 : Y2), Le (rec223 x226 x227 x228 q229 x232) (rec224 x226 x227 x228 q230 x232)) (q233 q234 : (HL [y1, y1] → Option (Int))) (hq235 : ∀ h, Le (q233 h) (q234 h)) (x236 : Int × (Int × (Int × (Bool × (Bool × Y2))))) : Le (Sm_zbb_0 rec223 q233 x236).ev (S_zbb_0 rec224 q234 x236).ev := by
  unfold Sm_zbb_0 S_zbb_0
  try dsimp only
  repeat' first
    | with_reducible exact Le.refl _
    | with_reducible exact Le.f _
    | with_reducible refine Le.t ?_ ?_
    | with_reducible refine Le.g ?_
    | with_reducible refine Le.s (fun _ => ?_) (fun _ => ?_)
    | with_reducible refine Le.c ?_ (fun _ => ?_)
    | with_reducible assumption
    | with_reducible apply hr225
    | with_reducible apply hq235
    | with_reducible apply mF_zav
    | with_reducible apply mF_zat
    | with_reducible apply mF_zau
    | with_reducible apply mF_zba
    | with_reducible refine Le.bnd ?_
    | with_reducible intro _
theorem mL_zbb_0 (rec237 rec238 : (Int) → (Int) → (Int) → ((HL [y1, y1] → Option (Int))) → Y2 → Option Y2) (hr239 : ∀ (x240 : (Int)) (x241 : (Int)) (x242 : (Int)) (q243 q244 : ((HL [y1, y1] → Option (Int)))) (hq245 : ∀ h, Le (q243 h) (q244 h)) (x246 : Y2), Le (rec237 x240 x241 x242 q243 x246) (rec238 x240 x241 x242 q244 x246)) (q247 q248 : (HL [y1, y1] → Option (Int))) (hq249 : ∀ h, Le (q247 h) (q248 h)) (x250 : Int × (Int × (Int × (Bool × (Bool × Y2))))) : Le (Lm_zbb_0 rec237 q247 x250) (L_zbb_0 rec238 q248 x250) := by
  unfold Lm_zbb_0 L_zbb_0
  refine Le.it (fun v => ?_) _ _
  apply mS_zbb_0
  all_goals assumption
theorem mT_zbb (rec251 rec252 : (Int) → (Int) → (Int) → ((HL [y1, y1] → Option (Int))) → Y2 → Option Y2) (hr253 : ∀ (x254 : (Int)) (x255 : (Int)) (x256 : (Int)) (q257 q258 : ((HL [y1, y1] → Option (Int)))) (hq259 : ∀ h, Le (q257 h) (q258 h)) (x260 : Y2), Le (rec251 x254 x255 x256 q257 x260) (rec252 x254 x255 x256 q258 x260)) (x261 : Int) (x262 : Int) (x263 : Int) (q264 q265 : (HL [y1, y1] → Option (Int))) (hq266 : ∀ h, Le (q264 h) (q265 h)) (x267 : List Y1) : Le (Tm_zbb rec251 x261 x262 x263 q264 x267).ev (T_zbb rec252 x261 x262 x263 q265 x267).ev := by
  unfold Tm_zbb T_zbb
  try dsimp only
  repeat' first
    | with_reducible exact Le.refl _
    | with_reducible exact Le.f _
    | with_reducible refine Le.t ?_ ?_
    | with_reducible refine Le.g ?_
    | with_reducible refine Le.s (fun _ => ?_) (fun _ => ?_)
    | with_reducible refine Le.c ?_ (fun _ => ?_)
    | with_reducible assumption
    | with_reducible apply hr253
    | with_reducible apply hq266
    | with_reducible apply mL_zbb_0
    | with_reducible refine Le.bnd ?_
    | with_reducible intro _
theorem mF_zbb : ∀ (n : Nat) (x268 : (Int)) (x269 : (Int)) (x270 : (Int)) (q271 q272 : ((HL [y1, y1] → Option (Int)))) (hq273 : ∀ h, Le (q271 h) (q272 h)) (x274 : Y2), Le (Fm_zbb n x268 x269 x270 q271 x274) (F_zbb n x268 x269 x270 q272 x274)
  | 0 => by intros; exact Le.none _
  | n + 1 => by
    intros
    unfold Fm_zbb F_zbb
    apply mT_zbb
    · exact mF_zbb n
    all_goals assumption
theorem mT_zas (q275 q276 : (HL [y1, y1] → Option (Int))) (hq277 : ∀ h, Le (q275 h) (q276 h)) (x278 : List Y1) : Le (Tm_zas q275 x278).ev (T_zas q276 x278).ev := by
  unfold Tm_zas T_zas
  try dsimp only
  repeat' first
    | with_reducible exact Le.refl _
    | with_reducible exact Le.f _
    | with_reducible refine Le.t ?_ ?_
    | with_reducible refine Le.g ?_
    | with_reducible refine Le.s (fun _ => ?_) (fun _ => ?_)
    | with_reducible refine Le.c ?_ (fun _ => ?_)
    | with_reducible assumption
    | with_reducible apply hq277
    | with_reducible apply mF_zal
    | with_reducible apply mF_zbb
    | with_reducible refine Le.bnd ?_
    | with_reducible intro _
theorem mF_zas (q279 q280 : (HL [y1, y1] → Option (Int))) (hq281 : ∀ h, Le (q279 h) (q280 h)) (x282 : List Y1) : Le (Fm_zas q279 x282) (F_zas q280 x282) := by
  unfold Fm_zas F_zas
  apply mT_zas
  all_goals assumption
theorem mT_zc (x283 : Int) : Le (Tm_zc x283).ev (T_zc x283).ev := by
  unfold Tm_zc T_zc
  try dsimp only
  repeat' first
    | with_reducible exact Le.refl _
    | with_reducible exact Le.f _
    | with_reducible refine Le.t ?_ ?_
    | with_reducible refine Le.g ?_
    | with_reducible refine Le.s (fun _ => ?_) (fun _ => ?_)
    | with_reducible refine Le.c ?_ (fun _ => ?_)
    | with_reducible assumption
    | with_reducible refine Le.bnd ?_
    | with_reducible intro _
theorem mF_zc (x284 : Int) : Le (Fm_zc x284) (F_zc x284) := by
  unfold Fm_zc F_zc
  apply mT_zc
  all_goals assumption
theorem mT_za (x285 : Int) (x286 : Int) : Le (Tm_za x285 x286).ev (T_za x285 x286).ev := by
  unfold Tm_za T_za
  try dsimp only
  repeat' first
    | with_reducible exact Le.refl _
    | with_reducible exact Le.f _
    | with_reducible refine Le.t ?_ ?_
    | with_reducible refine Le.g ?_
    | with_reducible refine Le.s (fun _ => ?_) (fun _ => ?_)
    | with_reducible refine Le.c ?_ (fun _ => ?_)
    | with_reducible assumption
    | with_reducible apply mF_zc
    | with_reducible refine Le.bnd ?_
    | with_reducible intro _
theorem mF_za (x287 : Int) (x288 : Int) : Le (Fm_za x287 x288) (F_za x287 x288) := by
  unfold Fm_za F_za
  apply mT_za
  all_goals assumption
theorem mS_zan_0 (x289 : Y1 × (Y1 × (Y1 × Int))) (x290 : Int) : Le (Sm_zan_0 x289 x290).ev (S_zan_0 x289 x290).ev := by
  unfold Sm_zan_0 S_zan_0
  try dsimp only
  repeat' first
    | with_reducible exact Le.refl _
    | with_reducible exact Le.f _
    | with_reducible refine Le.t ?_ ?_
    | with_reducible refine Le.g ?_
    | with_reducible refine Le.s (fun _ => ?_) (fun _ => ?_)
    | with_reducible refine Le.c ?_ (fun _ => ?_)
    | with_reducible assumption
    | with_reducible apply mF_za
    | with_reducible refine Le.bnd ?_
    | with_reducible intro _
theorem mL_zan_0 (x291 : Y1 × (Y1 × (Y1 × Int))) (x292 : Int) : Le (Lm_zan_0 x291 x292) (L_zan_0 x291 x292) := by
  unfold Lm_zan_0 L_zan_0
  refine Le.it (fun v => ?_) _ _
  apply mS_zan_0
  all_goals assumption
theorem mT_zan (x293 : Y1) (x294 : Y1) : Le (Tm_zan x293 x294).ev (T_zan x293 x294).ev := by
  unfold Tm_zan T_zan
  try dsimp only
  repeat' first
    | with_reducible exact Le.refl _
    | with_reducible exact Le.f _
    | with_reducible refine Le.t ?_ ?_
    | with_reducible refine Le.g ?_
    | with_reducible refine Le.s (fun _ => ?_) (fun _ => ?_)
    | with_reducible refine Le.c ?_ (fun _ => ?_)
    | with_reducible assumption
    | with_reducible apply mL_zan_0
    | with_reducible refine Le.bnd ?_
    | with_reducible intro _
theorem mF_zan (x295 : Y1) (x296 : Y1) : Le (Fm_zan x295 x296) (F_zan x295 x296) := by
  unfold Fm_zan F_zan
  apply mT_zan
  all_goals assumption
theorem mS_zb_0 (x297 : Int × (Y1 × Int)) (x298 : Int) : Le (Sm_zb_0 x297 x298).ev (S_zb_0 x297 x298).ev := by
  unfold Sm_zb_0 S_zb_0
  try dsimp only
  repeat' first
    | with_reducible exact Le.refl _
    | with_reducible exact Le.f _
    | with_reducible refine Le.t ?_ ?_
    | with_reducible refine Le.g ?_
    | with_reducible refine Le.s (fun _ => ?_) (fun _ => ?_)
    | with_reducible refine Le.c ?_ (fun _ => ?_)
    | with_reducible assumption
    | with_reducible refine Le.bnd ?_
    | with_reducible intro _
theorem mL_zb_0 (x299 : Int × (Y1 × Int)) (x300 : Int) : Le (Lm_zb_0 x299 x300) (L_zb_0 x299 x300) := by
  unfold Lm_zb_0 L_zb_0
  refine Le.it (fun v => ?_) _ _
  apply mS_zb_0
  all_goals assumption
theorem mT_zb (x301 : Y1) : Le (Tm_zb x301).ev (T_zb x301).ev := by
  unfold Tm_zb T_zb
  try dsimp only
  repeat' first
    | with_reducible exact Le.refl _
    | with_reducible exact Le.f _
    | with_reducible refine Le.t ?_ ?_
    | with_reducible refine Le.g ?_
    | with_reducible refine Le.s (fun _ => ?_) (fun _ => ?_)
    | with_reducible refine Le.c ?_ (fun _ => ?_)
    | with_reducible assumption
    | with_reducible apply mL_zb_0
    | with_reducible refine Le.bnd ?_
    | with_reducible intro _
theorem mF_zb (x302 : Y1) : Le (Fm_zb x302) (F_zb x302) := by
  unfold Fm_zb F_zb
  apply mT_zb
  all_goals assumption
theorem mT_zz (x303 : Y1) (x304 : Y1) : Le (Tm_zz x303 x304).ev (T_zz x303 x304).ev := by
  unfold Tm_zz T_zz
  try dsimp only
  repeat' first
    | with_reducible exact Le.refl _
    | with_reducible exact Le.f _
    | with_reducible refine Le.t ?_ ?_
    | with_reducible refine Le.g ?_
    | with_reducible refine Le.s (fun _ => ?_) (fun _ => ?_)
    | with_reducible refine Le.c ?_ (fun _ => ?_)
    | with_reducible assumption
    | with_reducible apply mF_za
    | with_reducible apply mF_zan
    | with_reducible apply mF_zb
    | with_reducible refine Le.bnd ?_
    | with_reducible intro _
theorem mF_zz (x305 : Y1) (x306 : Y1) : Le (Fm_zz x305 x306) (F_zz x305 x306) := by
  unfold Fm_zz F_zz
  apply mT_zz
  all_goals assumption
theorem mS_zad_0 (x307 : Int) (x308 : Int × Y2) : Le (Sm_zad_0 x307 x308).ev (S_zad_0 x307 x308).ev := by
  unfold Sm_zad_0 S_zad_0
  try dsimp only
  repeat' first
    | with_reducible exact Le.refl _
    | with_reducible exact Le.f _
    | with_reducible refine Le.t ?_ ?_
    | with_reducible refine Le.g ?_
    | with_reducible refine Le.s (fun _ => ?_) (fun _ => ?_)
    | with_reducible refine Le.c ?_ (fun _ => ?_)
    | with_reducible assumption
    | with_reducible apply mF_zx
    | with_reducible refine Le.bnd ?_
    | with_reducible intro _
theorem mL_zad_0 (x309 : Int) (x310 : Int × Y2) : Le (Lm_zad_0 x309 x310) (L_zad_0 x309 x310) := by
  unfold Lm_zad_0 L_zad_0
  refine Le.it (fun v => ?_) _ _
  apply mS_zad_0
  all_goals assumption
theorem mT_zad (x311 : Int) : Le (Tm_zad x311).ev (T_zad x311).ev := by
  unfold Tm_zad T_zad
  try dsimp only
  repeat' first
    | with_reducible exact Le.refl _
    | with_reducible exact Le.f _
    | with_reducible refine Le.t ?_ ?_
    | with_reducible refine Le.g ?_
    | with_reducible refine Le.s (fun _ => ?_) (fun _ => ?_)
    | with_reducible refine Le.c ?_ (fun _ => ?_)
    | with_reducible assumption
    | with_reducible apply mL_zad_0
    | with_reducible apply mF_zas
    | with_reducible apply mF_zz
    | with_reducible refine Le.bnd ?_
    | with_reducible intro _
theorem mF_zad (x312 : Int) : Le (Fm_zad x312) (F_zad x312) := by
  unfold Fm_zad F_zad
  apply mT_zad
  all_goals assumption
end Go.Proofs.Ytlmbhkmaflhagaa
