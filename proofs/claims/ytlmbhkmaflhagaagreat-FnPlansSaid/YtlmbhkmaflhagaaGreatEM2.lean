import Derived.Test.YtlmbhkmaflhagaaGreatEM1
namespace Go.Proofs.YtlmbhkmaflhagaaGreat
theorem mS_zcy_0 (x1 : Int × Int) (x2 : Int × Y1) : Le (Sm_zcy_0 x1 x2).ev (S_zcy_0 x1 x2).ev := by
  unfold Sm_zcy_0 S_zcy_0
  try dsimp only
  repeat' first
    | with_reducible exact Le.refl _
    | with_reducible exact Le.f _
    | with_reducible refine Le.t ?_ ?_
    | with_reducible refine Le.g ?_
    | with_reducible refine Le.s (fun _ => ?_) (fun _ => ?_)
    | with_reducible refine Le.c ?_ (fun _ => ?_)
    | with_reducible assumption
    | with_reducible refine Le.bnd ?_
    | with_reducible intro _
theorem mL_zcy_0 (x3 : Int × Int) (x4 : Int × Y1) : Le (Lm_zcy_0 x3 x4) (L_zcy_0 x3 x4) := by
  unfold Lm_zcy_0 L_zcy_0
  refine Le.it (fun v => ?_) _ _
  apply mS_zcy_0
  all_goals assumption
theorem mT_zcy (x5 : Int) (x6 : Int) : Le (Tm_zcy x5 x6).ev (T_zcy x5 x6).ev := by
  unfold Tm_zcy T_zcy
  try dsimp only
  repeat' first
    | with_reducible exact Le.refl _
    | with_reducible exact Le.f _
    | with_reducible refine Le.t ?_ ?_
    | with_reducible refine Le.g ?_
    | with_reducible refine Le.s (fun _ => ?_) (fun _ => ?_)
    | with_reducible refine Le.c ?_ (fun _ => ?_)
    | with_reducible assumption
    | with_reducible apply mL_zcy_0
    | with_reducible refine Le.bnd ?_
    | with_reducible intro _
theorem mF_zcy (x7 : Int) (x8 : Int) : Le (Fm_zcy x7 x8) (F_zcy x7 x8) := by
  unfold Fm_zcy F_zcy
  apply mT_zcy
  all_goals assumption
theorem mS_zah_0 (x9 : Y1 × Int) (x10 : Int × Int) : Le (Sm_zah_0 x9 x10).ev (S_zah_0 x9 x10).ev := by
  unfold Sm_zah_0 S_zah_0
  try dsimp only
  repeat' first
    | with_reducible exact Le.refl _
    | with_reducible exact Le.f _
    | with_reducible refine Le.t ?_ ?_
    | with_reducible refine Le.g ?_
    | with_reducible refine Le.s (fun _ => ?_) (fun _ => ?_)
    | with_reducible refine Le.c ?_ (fun _ => ?_)
    | with_reducible assumption
    | with_reducible refine Le.bnd ?_
    | with_reducible intro _
theorem mL_zah_0 (x11 : Y1 × Int) (x12 : Int × Int) : Le (Lm_zah_0 x11 x12) (L_zah_0 x11 x12) := by
  unfold Lm_zah_0 L_zah_0
  refine Le.it (fun v => ?_) _ _
  apply mS_zah_0
  all_goals assumption
theorem mT_zah (x13 : Y1) : Le (Tm_zah x13).ev (T_zah x13).ev := by
  unfold Tm_zah T_zah
  try dsimp only
  repeat' first
    | with_reducible exact Le.refl _
    | with_reducible exact Le.f _
    | with_reducible refine Le.t ?_ ?_
    | with_reducible refine Le.g ?_
    | with_reducible refine Le.s (fun _ => ?_) (fun _ => ?_)
    | with_reducible refine Le.c ?_ (fun _ => ?_)
    | with_reducible assumption
    | with_reducible apply mL_zah_0
    | with_reducible refine Le.bnd ?_
    | with_reducible intro _
theorem mF_zah (x14 : Y1) : Le (Fm_zah x14) (F_zah x14) := by
  unfold Fm_zah F_zah
  apply mT_zah
  all_goals assumption
theorem mT_zai (x15 : Int) (x16 : Int) : Le (Tm_zai x15 x16).ev (T_zai x15 x16).ev := by
  unfold Tm_zai T_zai
  try dsimp only
  repeat' first
    | with_reducible exact Le.refl _
    | with_reducible exact Le.f _
    | with_reducible refine Le.t ?_ ?_
    | with_reducible refine Le.g ?_
    | with_reducible refine Le.s (fun _ => ?_) (fun _ => ?_)
    | with_reducible refine Le.c ?_ (fun _ => ?_)
    | with_reducible assumption
    | with_reducible refine Le.bnd ?_
    | with_reducible intro _
theorem mF_zai (x17 : Int) (x18 : Int) : Le (Fm_zai x17 x18) (F_zai x17 x18) := by
  unfold Fm_zai F_zai
  apply mT_zai
  all_goals assumption
theorem mS_zcs_0 (x19 : Y1 × Int) (x20 : Int) : Le (Sm_zcs_0 x19 x20).ev (S_zcs_0 x19 x20).ev := by
  unfold Sm_zcs_0 S_zcs_0
  try dsimp only
  repeat' first
    | with_reducible exact Le.refl _
    | with_reducible exact Le.f _
    | with_reducible refine Le.t ?_ ?_
    | with_reducible refine Le.g ?_
    | with_reducible refine Le.s (fun _ => ?_) (fun _ => ?_)
    | with_reducible refine Le.c ?_ (fun _ => ?_)
    | with_reducible assumption
    | with_reducible refine Le.bnd ?_
    | with_reducible intro _
theorem mL_zcs_0 (x21 : Y1 × Int) (x22 : Int) : Le (Lm_zcs_0 x21 x22) (L_zcs_0 x21 x22) := by
  unfold Lm_zcs_0 L_zcs_0
  refine Le.it (fun v => ?_) _ _
  apply mS_zcs_0
  all_goals assumption
theorem mT_zcs (x23 : Y1) (x24 : Int) : Le (Tm_zcs x23 x24).ev (T_zcs x23 x24).ev := by
  unfold Tm_zcs T_zcs
  try dsimp only
  repeat' first
    | with_reducible exact Le.refl _
    | with_reducible exact Le.f _
    | with_reducible refine Le.t ?_ ?_
    | with_reducible refine Le.g ?_
    | with_reducible refine Le.s (fun _ => ?_) (fun _ => ?_)
    | with_reducible refine Le.c ?_ (fun _ => ?_)
    | with_reducible assumption
    | with_reducible apply mL_zcs_0
    | with_reducible refine Le.bnd ?_
    | with_reducible intro _
theorem mF_zcs (x25 : Y1) (x26 : Int) : Le (Fm_zcs x25 x26) (F_zcs x25 x26) := by
  unfold Fm_zcs F_zcs
  apply mT_zcs
  all_goals assumption
theorem mS_zaj_0 (x27 : Int) (x28 : Int × Y1) : Le (Sm_zaj_0 x27 x28).ev (S_zaj_0 x27 x28).ev := by
  unfold Sm_zaj_0 S_zaj_0
  try dsimp only
  repeat' first
    | with_reducible exact Le.refl _
    | with_reducible exact Le.f _
    | with_reducible refine Le.t ?_ ?_
    | with_reducible refine Le.g ?_
    | with_reducible refine Le.s (fun _ => ?_) (fun _ => ?_)
    | with_reducible refine Le.c ?_ (fun _ => ?_)
    | with_reducible assumption
    | with_reducible apply mF_zai
    | with_reducible refine Le.bnd ?_
    | with_reducible intro _
theorem mL_zaj_0 (x29 : Int) (x30 : Int × Y1) : Le (Lm_zaj_0 x29 x30) (L_zaj_0 x29 x30) := by
  unfold Lm_zaj_0 L_zaj_0
  refine Le.it (fun v => ?_) _ _
  apply mS_zaj_0
  all_goals assumption
theorem mT_zaj (x31 : Int) : Le (Tm_zaj x31).ev (T_zaj x31).ev := by
  unfold Tm_zaj T_zaj
  try dsimp only
  repeat' first
    | with_reducible exact Le.refl _
    | with_reducible exact Le.f _
    | with_reducible refine Le.t ?_ ?_
    | with_reducible refine Le.g ?_
    | with_reducible refine Le.s (fun _ => ?_) (fun _ => ?_)
    | with_reducible refine Le.c ?_ (fun _ => ?_)
    | with_reducible assumption
    | with_reducible apply mL_zaj_0
    | with_reducible refine Le.bnd ?_
    | with_reducible intro _
theorem mF_zaj (x32 : Int) : Le (Fm_zaj x32) (F_zaj x32) := by
  unfold Fm_zaj F_zaj
  apply mT_zaj
  all_goals assumption
theorem mT_zax (x33 : Int) : Le (Tm_zax x33).ev (T_zax x33).ev := by
  unfold Tm_zax T_zax
  try dsimp only
  repeat' first
    | with_reducible exact Le.refl _
    | with_reducible exact Le.f _
    | with_reducible refine Le.t ?_ ?_
    | with_reducible refine Le.g ?_
    | with_reducible refine Le.s (fun _ => ?_) (fun _ => ?_)
    | with_reducible refine Le.c ?_ (fun _ => ?_)
    | with_reducible assumption
    | with_reducible refine Le.bnd ?_
    | with_reducible intro _
theorem mF_zax (x34 : Int) : Le (Fm_zax x34) (F_zax x34) := by
  unfold Fm_zax F_zax
  apply mT_zax
  all_goals assumption
theorem mT_zaw (x35 : Int) : Le (Tm_zaw x35).ev (T_zaw x35).ev := by
  unfold Tm_zaw T_zaw
  try dsimp only
  repeat' first
    | with_reducible exact Le.refl _
    | with_reducible exact Le.f _
    | with_reducible refine Le.t ?_ ?_
    | with_reducible refine Le.g ?_
    | with_reducible refine Le.s (fun _ => ?_) (fun _ => ?_)
    | with_reducible refine Le.c ?_ (fun _ => ?_)
    | with_reducible assumption
    | with_reducible apply mF_zax
    | with_reducible refine Le.bnd ?_
    | with_reducible intro _
theorem mF_zaw (x36 : Int) : Le (Fm_zaw x36) (F_zaw x36) := by
  unfold Fm_zaw F_zaw
  apply mT_zaw
  all_goals assumption
theorem mS_zbk_2 (c37 : (Int)) (c38 : (Int)) (q39 q40 : ((HL [y1, y1] → Option (Int)))) (hq41 : ∀ h, Le (q39 h) (q40 h)) (c42 : Int) (x43 : Int × Y2) : Le (Sm_zbk_2 (c37, (c38, (q39, c42))) x43).ev (S_zbk_2 (c37, (c38, (q40, c42))) x43).ev := by
  unfold Sm_zbk_2 S_zbk_2
  try dsimp only
  repeat' first
    | with_reducible exact Le.refl _
    | with_reducible exact Le.f _
    | with_reducible refine Le.t ?_ ?_
    | with_reducible refine Le.g ?_
    | with_reducible refine Le.s (fun _ => ?_) (fun _ => ?_)
    | with_reducible refine Le.c ?_ (fun _ => ?_)
    | with_reducible assumption
    | with_reducible apply hq41
    | with_reducible refine Le.bnd ?_
    | with_reducible intro _
theorem mL_zbk_2 (c44 : (Int)) (c45 : (Int)) (q46 q47 : ((HL [y1, y1] → Option (Int)))) (hq48 : ∀ h, Le (q46 h) (q47 h)) (c49 : Int) (x50 : Int × Y2) : Le (Lm_zbk_2 (c44, (c45, (q46, c49))) x50) (L_zbk_2 (c44, (c45, (q47, c49))) x50) := by
  unfold Lm_zbk_2 L_zbk_2
  refine Le.it (fun v => ?_) _ _
  apply mS_zbk_2
  all_goals assumption
theorem mS_zbk_0 (c51 : (Int)) (c52 : (Int)) (q53 q54 : HL [y1, y1] → Option (Int)) (hq55 : ∀ h, Le (q53 h) (q54 h)) (x56 : Int × Y2) : Le (Sm_zbk_0 (c51, (c52, q53)) x56).ev (S_zbk_0 (c51, (c52, q54)) x56).ev := by
  unfold Sm_zbk_0 S_zbk_0
  try dsimp only
  repeat' first
    | with_reducible exact Le.refl _
    | with_reducible exact Le.f _
    | with_reducible refine Le.t ?_ ?_
    | with_reducible refine Le.g ?_
    | with_reducible refine Le.s (fun _ => ?_) (fun _ => ?_)
    | with_reducible refine Le.c ?_ (fun _ => ?_)
    | with_reducible assumption
    | with_reducible apply hq55
    | with_reducible apply mL_zbk_2
    | with_reducible refine Le.bnd ?_
    | with_reducible intro _
theorem mL_zbk_0 (c57 : (Int)) (c58 : (Int)) (q59 q60 : HL [y1, y1] → Option (Int)) (hq61 : ∀ h, Le (q59 h) (q60 h)) (x62 : Int × Y2) : Le (Lm_zbk_0 (c57, (c58, q59)) x62) (L_zbk_0 (c57, (c58, q60)) x62) := by
  unfold Lm_zbk_0 L_zbk_0
  refine Le.it (fun v => ?_) _ _
  apply mS_zbk_0
  all_goals assumption
theorem mT_zbk (x63 : Int) (x64 : Int) (q65 q66 : (HL [y1, y1] → Option (Int))) (hq67 : ∀ h, Le (q65 h) (q66 h)) (x68 : List Y1) : Le (Tm_zbk x63 x64 q65 x68).ev (T_zbk x63 x64 q66 x68).ev := by
  unfold Tm_zbk T_zbk
  try dsimp only
  repeat' first
    | with_reducible exact Le.refl _
    | with_reducible exact Le.f _
    | with_reducible refine Le.t ?_ ?_
    | with_reducible refine Le.g ?_
    | with_reducible refine Le.s (fun _ => ?_) (fun _ => ?_)
    | with_reducible refine Le.c ?_ (fun _ => ?_)
    | with_reducible assumption
    | with_reducible apply hq67
    | with_reducible apply mL_zbk_0
    | with_reducible refine Le.bnd ?_
    | with_reducible intro _
theorem mF_zbk (x69 : Int) (x70 : Int) (q71 q72 : (HL [y1, y1] → Option (Int))) (hq73 : ∀ h, Le (q71 h) (q72 h)) (x74 : List Y1) : Le (Fm_zbk x69 x70 q71 x74) (F_zbk x69 x70 q72 x74) := by
  unfold Fm_zbk F_zbk
  apply mT_zbk
  all_goals assumption
theorem mT_zbn (x75 : List Y1) (x76 : Int) (x77 : Int) (q78 q79 : (HL [y1, y1] → Option (Int))) (hq80 : ∀ h, Le (q78 h) (q79 h)) (x81 : Int) : Le (Tm_zbn x75 x76 x77 q78 x81).ev (T_zbn x75 x76 x77 q79 x81).ev := by
  unfold Tm_zbn T_zbn
  try dsimp only
  repeat' first
    | with_reducible exact Le.refl _
    | with_reducible exact Le.f _
    | with_reducible refine Le.t ?_ ?_
    | with_reducible refine Le.g ?_
    | with_reducible refine Le.s (fun _ => ?_) (fun _ => ?_)
    | with_reducible refine Le.c ?_ (fun _ => ?_)
    | with_reducible assumption
    | with_reducible apply hq80
    | with_reducible refine Le.bnd ?_
    | with_reducible intro _
theorem mF_zbn (x82 : List Y1) (x83 : Int) (x84 : Int) (q85 q86 : (HL [y1, y1] → Option (Int))) (hq87 : ∀ h, Le (q85 h) (q86 h)) (x88 : Int) : Le (Fm_zbn x82 x83 x84 q85 x88) (F_zbn x82 x83 x84 q86 x88) := by
  unfold Fm_zbn F_zbn
  apply mT_zbn
  all_goals assumption
theorem mT_zbm (x89 : List Y1) (x90 : Int) (x91 : Int) (x92 : Int) (q93 q94 : (HL [y1, y1] → Option (Int))) (hq95 : ∀ h, Le (q93 h) (q94 h)) (x96 : Int) : Le (Tm_zbm x89 x90 x91 x92 q93 x96).ev (T_zbm x89 x90 x91 x92 q94 x96).ev := by
  unfold Tm_zbm T_zbm
  try dsimp only
  repeat' first
    | with_reducible exact Le.refl _
    | with_reducible exact Le.f _
    | with_reducible refine Le.t ?_ ?_
    | with_reducible refine Le.g ?_
    | with_reducible refine Le.s (fun _ => ?_) (fun _ => ?_)
    | with_reducible refine Le.c ?_ (fun _ => ?_)
    | with_reducible assumption
    | with_reducible apply hq95
    | with_reducible apply mF_zbn
    | with_reducible refine Le.bnd ?_
    | with_reducible intro _
theorem mF_zbm (x97 : List Y1) (x98 : Int) (x99 : Int) (x100 : Int) (q101 q102 : (HL [y1, y1] → Option (Int))) (hq103 : ∀ h, Le (q101 h) (q102 h)) (x104 : Int) : Le (Fm_zbm x97 x98 x99 x100 q101 x104) (F_zbm x97 x98 x99 x100 q102 x104) := by
  unfold Fm_zbm F_zbm
  apply mT_zbm
  all_goals assumption
theorem mT_zbl (x105 : List Y1) (x106 : Int) (q107 q108 : (HL [y1, y1] → Option (Int))) (hq109 : ∀ h, Le (q107 h) (q108 h)) (x110 : Int) : Le (Tm_zbl x105 x106 q107 x110).ev (T_zbl x105 x106 q108 x110).ev := by
  unfold Tm_zbl T_zbl
  try dsimp only
  repeat' first
    | with_reducible exact Le.refl _
    | with_reducible exact Le.f _
    | with_reducible refine Le.t ?_ ?_
    | with_reducible refine Le.g ?_
    | with_reducible refine Le.s (fun _ => ?_) (fun _ => ?_)
    | with_reducible refine Le.c ?_ (fun _ => ?_)
    | with_reducible assumption
    | with_reducible apply hq109
    | with_reducible apply mF_zbm
    | with_reducible refine Le.bnd ?_
    | with_reducible intro _
theorem mF_zbl (x111 : List Y1) (x112 : Int) (q113 q114 : (HL [y1, y1] → Option (Int))) (hq115 : ∀ h, Le (q113 h) (q114 h)) (x116 : Int) : Le (Fm_zbl x111 x112 q113 x116) (F_zbl x111 x112 q114 x116) := by
  unfold Fm_zbl F_zbl
  apply mT_zbl
  all_goals assumption
theorem mT_zbj (x117 : List Y1) (x118 : Int) (x119 : Int) (q120 q121 : (HL [y1, y1] → Option (Int))) (hq122 : ∀ h, Le (q120 h) (q121 h)) : Le (Tm_zbj x117 x118 x119 q120).ev (T_zbj x117 x118 x119 q121).ev := by
  unfold Tm_zbj T_zbj
  try dsimp only
  repeat' first
    | with_reducible exact Le.refl _
    | with_reducible exact Le.f _
    | with_reducible refine Le.t ?_ ?_
    | with_reducible refine Le.g ?_
    | with_reducible refine Le.s (fun _ => ?_) (fun _ => ?_)
    | with_reducible refine Le.c ?_ (fun _ => ?_)
    | with_reducible assumption
    | with_reducible apply hq122
    | with_reducible apply mF_zbl
    | with_reducible apply mF_zbm
    | with_reducible refine Le.bnd ?_
    | with_reducible intro _
theorem mF_zbj (x123 : List Y1) (x124 : Int) (x125 : Int) (q126 q127 : (HL [y1, y1] → Option (Int))) (hq128 : ∀ h, Le (q126 h) (q127 h)) : Le (Fm_zbj x123 x124 x125 q126) (F_zbj x123 x124 x125 q127) := by
  unfold Fm_zbj F_zbj
  apply mT_zbj
  all_goals assumption
theorem mS_zbo_0 (c129 : (Int)) (q130 q131 : ((HL [y1, y1] → Option (Int)))) (hq132 : ∀ h, Le (q130 h) (q131 h)) (c133 : (Int)) (c134 : List Y1) (x135 : Int) : Le (Sm_zbo_0 (c129, (q130, (c133, c134))) x135).ev (S_zbo_0 (c129, (q131, (c133, c134))) x135).ev := by
  unfold Sm_zbo_0 S_zbo_0
  try dsimp only
  repeat' first
    | with_reducible exact Le.refl _
    | with_reducible exact Le.f _
    | with_reducible refine Le.t ?_ ?_
    | with_reducible refine Le.g ?_
    | with_reducible refine Le.s (fun _ => ?_) (fun _ => ?_)
    | with_reducible refine Le.c ?_ (fun _ => ?_)
    | with_reducible assumption
    | with_reducible apply hq132
    | with_reducible refine Le.bnd ?_
    | with_reducible intro _
theorem mL_zbo_0 (c136 : (Int)) (q137 q138 : ((HL [y1, y1] → Option (Int)))) (hq139 : ∀ h, Le (q137 h) (q138 h)) (c140 : (Int)) (c141 : List Y1) (x142 : Int) : Le (Lm_zbo_0 (c136, (q137, (c140, c141))) x142) (L_zbo_0 (c136, (q138, (c140, c141))) x142) := by
  unfold Lm_zbo_0 L_zbo_0
  refine Le.it (fun v => ?_) _ _
  apply mS_zbo_0
  all_goals assumption
theorem mS_zbo_2 (c143 : (Int)) (q144 q145 : ((HL [y1, y1] → Option (Int)))) (hq146 : ∀ h, Le (q144 h) (q145 h)) (c147 : (Int)) (c148 : List Y1) (x149 : Int) : Le (Sm_zbo_2 (c143, (q144, (c147, c148))) x149).ev (S_zbo_2 (c143, (q145, (c147, c148))) x149).ev := by
  unfold Sm_zbo_2 S_zbo_2
  try dsimp only
  repeat' first
    | with_reducible exact Le.refl _
    | with_reducible exact Le.f _
    | with_reducible refine Le.t ?_ ?_
    | with_reducible refine Le.g ?_
    | with_reducible refine Le.s (fun _ => ?_) (fun _ => ?_)
    | with_reducible refine Le.c ?_ (fun _ => ?_)
    | with_reducible assumption
    | with_reducible apply hq146
    | with_reducible refine Le.bnd ?_
    | with_reducible intro _
theorem mL_zbo_2 (c150 : (Int)) (q151 q152 : ((HL [y1, y1] → Option (Int)))) (hq153 : ∀ h, Le (q151 h) (q152 h)) (c154 : (Int)) (c155 : List Y1) (x156 : Int) : Le (Lm_zbo_2 (c150, (q151, (c154, c155))) x156) (L_zbo_2 (c150, (q152, (c154, c155))) x156) := by
  unfold Lm_zbo_2 L_zbo_2
  refine Le.it (fun v => ?_) _ _
  apply mS_zbo_2
  all_goals assumption
theorem mS_zbo_6 (c157 : (Int)) (q158 q159 : ((HL [y1, y1] → Option (Int)))) (hq160 : ∀ h, Le (q158 h) (q159 h)) (c161 : (Int)) (c162 : List Y1) (x163 : Int) : Le (Sm_zbo_6 (c157, (q158, (c161, c162))) x163).ev (S_zbo_6 (c157, (q159, (c161, c162))) x163).ev := by
  unfold Sm_zbo_6 S_zbo_6
  try dsimp only
  repeat' first
    | with_reducible exact Le.refl _
    | with_reducible exact Le.f _
    | with_reducible refine Le.t ?_ ?_
    | with_reducible refine Le.g ?_
    | with_reducible refine Le.s (fun _ => ?_) (fun _ => ?_)
    | with_reducible refine Le.c ?_ (fun _ => ?_)
    | with_reducible assumption
    | with_reducible apply hq160
    | with_reducible refine Le.bnd ?_
    | with_reducible intro _
theorem mL_zbo_6 (c164 : (Int)) (q165 q166 : ((HL [y1, y1] → Option (Int)))) (hq167 : ∀ h, Le (q165 h) (q166 h)) (c168 : (Int)) (c169 : List Y1) (x170 : Int) : Le (Lm_zbo_6 (c164, (q165, (c168, c169))) x170) (L_zbo_6 (c164, (q166, (c168, c169))) x170) := by
  unfold Lm_zbo_6 L_zbo_6
  refine Le.it (fun v => ?_) _ _
  apply mS_zbo_6
  all_goals assumption
theorem mS_zbo_8 (c171 : (Int)) (q172 q173 : ((HL [y1, y1] → Option (Int)))) (hq174 : ∀ h, Le (q172 h) (q173 h)) (c175 : (Int)) (c176 : List Y1) (x177 : Int) : Le (Sm_zbo_8 (c171, (q172, (c175, c176))) x177).ev (S_zbo_8 (c171, (q173, (c175, c176))) x177).ev := by
  unfold Sm_zbo_8 S_zbo_8
  try dsimp only
  repeat' first
    | with_reducible exact Le.refl _
    | with_reducible exact Le.f _
    | with_reducible refine Le.t ?_ ?_
    | with_reducible refine Le.g ?_
    | with_reducible refine Le.s (fun _ => ?_) (fun _ => ?_)
    | with_reducible refine Le.c ?_ (fun _ => ?_)
    | with_reducible assumption
    | with_reducible apply hq174
    | with_reducible refine Le.bnd ?_
    | with_reducible intro _
theorem mL_zbo_8 (c178 : (Int)) (q179 q180 : ((HL [y1, y1] → Option (Int)))) (hq181 : ∀ h, Le (q179 h) (q180 h)) (c182 : (Int)) (c183 : List Y1) (x184 : Int) : Le (Lm_zbo_8 (c178, (q179, (c182, c183))) x184) (L_zbo_8 (c178, (q180, (c182, c183))) x184) := by
  unfold Lm_zbo_8 L_zbo_8
  refine Le.it (fun v => ?_) _ _
  apply mS_zbo_8
  all_goals assumption
theorem mS_zbo_4 (c185 : (Int)) (q186 q187 : HL [y1, y1] → Option (Int)) (hq188 : ∀ h, Le (q186 h) (q187 h)) (x189 : Int × (Int × Y2)) : Le (Sm_zbo_4 (c185, q186) x189).ev (S_zbo_4 (c185, q187) x189).ev := by
  unfold Sm_zbo_4 S_zbo_4
  try dsimp only
  repeat' first
    | with_reducible exact Le.refl _
    | with_reducible exact Le.f _
    | with_reducible refine Le.t ?_ ?_
    | with_reducible refine Le.g ?_
    | with_reducible refine Le.s (fun _ => ?_) (fun _ => ?_)
    | with_reducible refine Le.c ?_ (fun _ => ?_)
    | with_reducible assumption
    | with_reducible apply hq188
    | with_reducible apply mL_zbo_6
    | with_reducible apply mL_zbo_8
    | with_reducible refine Le.bnd ?_
    | with_reducible intro _
theorem mL_zbo_4 (c190 : (Int)) (q191 q192 : HL [y1, y1] → Option (Int)) (hq193 : ∀ h, Le (q191 h) (q192 h)) (x194 : Int × (Int × Y2)) : Le (Lm_zbo_4 (c190, q191) x194) (L_zbo_4 (c190, q192) x194) := by
  unfold Lm_zbo_4 L_zbo_4
  refine Le.it (fun v => ?_) _ _
  apply mS_zbo_4
  all_goals assumption
theorem mT_zbo (x195 : Int) (x196 : Int) (x197 : Int) (q198 q199 : (HL [y1, y1] → Option (Int))) (hq200 : ∀ h, Le (q198 h) (q199 h)) (x201 : List Y1) : Le (Tm_zbo x195 x196 x197 q198 x201).ev (T_zbo x195 x196 x197 q199 x201).ev := by
  unfold Tm_zbo T_zbo
  try dsimp only
  repeat' first
    | with_reducible exact Le.refl _
    | with_reducible exact Le.f _
    | with_reducible refine Le.t ?_ ?_
    | with_reducible refine Le.g ?_
    | with_reducible refine Le.s (fun _ => ?_) (fun _ => ?_)
    | with_reducible refine Le.c ?_ (fun _ => ?_)
    | with_reducible assumption
    | with_reducible apply hq200
    | with_reducible apply mL_zbo_0
    | with_reducible apply mL_zbo_2
    | with_reducible apply mL_zbo_4
    | with_reducible refine Le.bnd ?_
    | with_reducible intro _
theorem mF_zbo (x202 : Int) (x203 : Int) (x204 : Int) (q205 q206 : (HL [y1, y1] → Option (Int))) (hq207 : ∀ h, Le (q205 h) (q206 h)) (x208 : List Y1) : Le (Fm_zbo x202 x203 x204 q205 x208) (F_zbo x202 x203 x204 q206 x208) := by
  unfold Fm_zbo F_zbo
  apply mT_zbo
  all_goals assumption
theorem mS_zbp_0 (rec209 rec210 : (Int) → (Int) → (Int) → ((HL [y1, y1] → Option (Int))) → Y2 → Option Y2) (hr211 : ∀ (x212 : (Int)) (x213 : (Int)) (x214 : (Int)) (q215 q216 : ((HL [y1, y1] → Option (Int)))) (hq217 : ∀ h, Le (q215 h) (q216 h)) (x218 : Y2), Le (rec209 x212 x213 x214 q215 x218) (rec210 x212 x213 x214 q216 x218)) (c219 : (Int)) (q220 q221 : HL [y1, y1] → Option (Int)) (hq222 : ∀ h, Le (q220 h) (q221 h)) (x223 : Int × (Int × (Bool × (Bool × Y2)))) : Le (Sm_zbp_0 rec209 (c219, q220) x223).ev (S_zbp_0 rec210 (c219, q221) x223).ev := by
  unfold Sm_zbp_0 S_zbp_0
  try dsimp only
  repeat' first
    | with_reducible exact Le.refl _
    | with_reducible exact Le.f _
    | with_reducible refine Le.t ?_ ?_
    | with_reducible refine Le.g ?_
    | with_reducible refine Le.s (fun _ => ?_) (fun _ => ?_)
    | with_reducible refine Le.c ?_ (fun _ => ?_)
    | with_reducible assumption
    | with_reducible apply hr211
    | with_reducible apply hq222
    | with_reducible apply mF_zbk
    | with_reducible apply mF_zbj
    | with_reducible apply mF_zbo
    | with_reducible refine Le.bnd ?_
    | with_reducible intro _
theorem mL_zbp_0 (rec224 rec225 : (Int) → (Int) → (Int) → ((HL [y1, y1] → Option (Int))) → Y2 → Option Y2) (hr226 : ∀ (x227 : (Int)) (x228 : (Int)) (x229 : (Int)) (q230 q231 : ((HL [y1, y1] → Option (Int)))) (hq232 : ∀ h, Le (q230 h) (q231 h)) (x233 : Y2), Le (rec224 x227 x228 x229 q230 x233) (rec225 x227 x228 x229 q231 x233)) (c234 : (Int)) (q235 q236 : HL [y1, y1] → Option (Int)) (hq237 : ∀ h, Le (q235 h) (q236 h)) (x238 : Int × (Int × (Bool × (Bool × Y2)))) : Le (Lm_zbp_0 rec224 (c234, q235) x238) (L_zbp_0 rec225 (c234, q236) x238) := by
  unfold Lm_zbp_0 L_zbp_0
  refine Le.it (fun v => ?_) _ _
  apply mS_zbp_0
  all_goals assumption
theorem mT_zbp (rec239 rec240 : (Int) → (Int) → (Int) → ((HL [y1, y1] → Option (Int))) → Y2 → Option Y2) (hr241 : ∀ (x242 : (Int)) (x243 : (Int)) (x244 : (Int)) (q245 q246 : ((HL [y1, y1] → Option (Int)))) (hq247 : ∀ h, Le (q245 h) (q246 h)) (x248 : Y2), Le (rec239 x242 x243 x244 q245 x248) (rec240 x242 x243 x244 q246 x248)) (x249 : Int) (x250 : Int) (x251 : Int) (q252 q253 : (HL [y1, y1] → Option (Int))) (hq254 : ∀ h, Le (q252 h) (q253 h)) (x255 : List Y1) : Le (Tm_zbp rec239 x249 x250 x251 q252 x255).ev (T_zbp rec240 x249 x250 x251 q253 x255).ev := by
  unfold Tm_zbp T_zbp
  try dsimp only
  repeat' first
    | with_reducible exact Le.refl _
    | with_reducible exact Le.f _
    | with_reducible refine Le.t ?_ ?_
    | with_reducible refine Le.g ?_
    | with_reducible refine Le.s (fun _ => ?_) (fun _ => ?_)
    | with_reducible refine Le.c ?_ (fun _ => ?_)
    | with_reducible assumption
    | with_reducible apply hr241
    | with_reducible apply hq254
    | with_reducible apply mL_zbp_0
    | with_reducible refine Le.bnd ?_
    | with_reducible intro _
theorem mF_zbp : ∀ (n : Nat) (x256 : (Int)) (x257 : (Int)) (x258 : (Int)) (q259 q260 : ((HL [y1, y1] → Option (Int)))) (hq261 : ∀ h, Le (q259 h) (q260 h)) (x262 : Y2), Le (Fm_zbp n x256 x257 x258 q259 x262) (F_zbp n x256 x257 x258 q260 x262)
  | 0 => by intros; exact Le.none _
  | n + 1 => by
    intros
    unfold Fm_zbp F_zbp
    apply mT_zbp
    · exact mF_zbp n
    all_goals assumption
theorem mT_zbi (q263 q264 : (HL [y1, y1] → Option (Int))) (hq265 : ∀ h, Le (q263 h) (q264 h)) (x266 : List Y1) : Le (Tm_zbi q263 x266).ev (T_zbi q264 x266).ev := by
  unfold Tm_zbi T_zbi
  try dsimp only
  repeat' first
    | with_reducible exact Le.refl _
    | with_reducible exact Le.f _
    | with_reducible refine Le.t ?_ ?_
    | with_reducible refine Le.g ?_
    | with_reducible refine Le.s (fun _ => ?_) (fun _ => ?_)
    | with_reducible refine Le.c ?_ (fun _ => ?_)
    | with_reducible assumption
    | with_reducible apply hq265
    | with_reducible apply mF_zaw
    | with_reducible apply mF_zbp
    | with_reducible refine Le.bnd ?_
    | with_reducible intro _
theorem mF_zbi (q267 q268 : (HL [y1, y1] → Option (Int))) (hq269 : ∀ h, Le (q267 h) (q268 h)) (x270 : List Y1) : Le (Fm_zbi q267 x270) (F_zbi q268 x270) := by
  unfold Fm_zbi F_zbi
  apply mT_zbi
  all_goals assumption
theorem mT_zc (x271 : Int) : Le (Tm_zc x271).ev (T_zc x271).ev := by
  unfold Tm_zc T_zc
  try dsimp only
  repeat' first
    | with_reducible exact Le.refl _
    | with_reducible exact Le.f _
    | with_reducible refine Le.t ?_ ?_
    | with_reducible refine Le.g ?_
    | with_reducible refine Le.s (fun _ => ?_) (fun _ => ?_)
    | with_reducible refine Le.c ?_ (fun _ => ?_)
    | with_reducible assumption
    | with_reducible refine Le.bnd ?_
    | with_reducible intro _
theorem mF_zc (x272 : Int) : Le (Fm_zc x272) (F_zc x272) := by
  unfold Fm_zc F_zc
  apply mT_zc
  all_goals assumption
theorem mT_za (x273 : Int) (x274 : Int) : Le (Tm_za x273 x274).ev (T_za x273 x274).ev := by
  unfold Tm_za T_za
  try dsimp only
  repeat' first
    | with_reducible exact Le.refl _
    | with_reducible exact Le.f _
    | with_reducible refine Le.t ?_ ?_
    | with_reducible refine Le.g ?_
    | with_reducible refine Le.s (fun _ => ?_) (fun _ => ?_)
    | with_reducible refine Le.c ?_ (fun _ => ?_)
    | with_reducible assumption
    | with_reducible apply mF_zc
    | with_reducible refine Le.bnd ?_
    | with_reducible intro _
theorem mF_za (x275 : Int) (x276 : Int) : Le (Fm_za x275 x276) (F_za x275 x276) := by
  unfold Fm_za F_za
  apply mT_za
  all_goals assumption
theorem mS_zaz_0 (x277 : Y1 × (Y1 × (Y1 × Int))) (x278 : Int) : Le (Sm_zaz_0 x277 x278).ev (S_zaz_0 x277 x278).ev := by
  unfold Sm_zaz_0 S_zaz_0
  try dsimp only
  repeat' first
    | with_reducible exact Le.refl _
    | with_reducible exact Le.f _
    | with_reducible refine Le.t ?_ ?_
    | with_reducible refine Le.g ?_
    | with_reducible refine Le.s (fun _ => ?_) (fun _ => ?_)
    | with_reducible refine Le.c ?_ (fun _ => ?_)
    | with_reducible assumption
    | with_reducible apply mF_za
    | with_reducible refine Le.bnd ?_
    | with_reducible intro _
theorem mL_zaz_0 (x279 : Y1 × (Y1 × (Y1 × Int))) (x280 : Int) : Le (Lm_zaz_0 x279 x280) (L_zaz_0 x279 x280) := by
  unfold Lm_zaz_0 L_zaz_0
  refine Le.it (fun v => ?_) _ _
  apply mS_zaz_0
  all_goals assumption
theorem mT_zaz (x281 : Y1) (x282 : Y1) : Le (Tm_zaz x281 x282).ev (T_zaz x281 x282).ev := by
  unfold Tm_zaz T_zaz
  try dsimp only
  repeat' first
    | with_reducible exact Le.refl _
    | with_reducible exact Le.f _
    | with_reducible refine Le.t ?_ ?_
    | with_reducible refine Le.g ?_
    | with_reducible refine Le.s (fun _ => ?_) (fun _ => ?_)
    | with_reducible refine Le.c ?_ (fun _ => ?_)
    | with_reducible assumption
    | with_reducible apply mL_zaz_0
    | with_reducible refine Le.bnd ?_
    | with_reducible intro _
theorem mF_zaz (x283 : Y1) (x284 : Y1) : Le (Fm_zaz x283 x284) (F_zaz x283 x284) := by
  unfold Fm_zaz F_zaz
  apply mT_zaz
  all_goals assumption
theorem mS_zb_0 (x285 : Int × (Y1 × Int)) (x286 : Int) : Le (Sm_zb_0 x285 x286).ev (S_zb_0 x285 x286).ev := by
  unfold Sm_zb_0 S_zb_0
  try dsimp only
  repeat' first
    | with_reducible exact Le.refl _
    | with_reducible exact Le.f _
    | with_reducible refine Le.t ?_ ?_
    | with_reducible refine Le.g ?_
    | with_reducible refine Le.s (fun _ => ?_) (fun _ => ?_)
    | with_reducible refine Le.c ?_ (fun _ => ?_)
    | with_reducible assumption
    | with_reducible refine Le.bnd ?_
    | with_reducible intro _
theorem mL_zb_0 (x287 : Int × (Y1 × Int)) (x288 : Int) : Le (Lm_zb_0 x287 x288) (L_zb_0 x287 x288) := by
  unfold Lm_zb_0 L_zb_0
  refine Le.it (fun v => ?_) _ _
  apply mS_zb_0
  all_goals assumption
theorem mT_zb (x289 : Y1) : Le (Tm_zb x289).ev (T_zb x289).ev := by
  unfold Tm_zb T_zb
  try dsimp only
  repeat' first
    | with_reducible exact Le.refl _
    | with_reducible exact Le.f _
    | with_reducible refine Le.t ?_ ?_
    | with_reducible refine Le.g ?_
    | with_reducible refine Le.s (fun _ => ?_) (fun _ => ?_)
    | with_reducible refine Le.c ?_ (fun _ => ?_)
    | with_reducible assumption
    | with_reducible apply mL_zb_0
    | with_reducible refine Le.bnd ?_
    | with_reducible intro _
theorem mF_zb (x290 : Y1) : Le (Fm_zb x290) (F_zb x290) := by
  unfold Fm_zb F_zb
  apply mT_zb
  all_goals assumption
theorem mT_zal (x291 : Y1) (x292 : Y1) : Le (Tm_zal x291 x292).ev (T_zal x291 x292).ev := by
  unfold Tm_zal T_zal
  try dsimp only
  repeat' first
    | with_reducible exact Le.refl _
    | with_reducible exact Le.f _
    | with_reducible refine Le.t ?_ ?_
    | with_reducible refine Le.g ?_
    | with_reducible refine Le.s (fun _ => ?_) (fun _ => ?_)
    | with_reducible refine Le.c ?_ (fun _ => ?_)
    | with_reducible assumption
    | with_reducible apply mF_za
    | with_reducible apply mF_zaz
    | with_reducible apply mF_zb
    | with_reducible refine Le.bnd ?_
    | with_reducible intro _
theorem mF_zal (x293 : Y1) (x294 : Y1) : Le (Fm_zal x293 x294) (F_zal x293 x294) := by
  unfold Fm_zal F_zal
  apply mT_zal
  all_goals assumption
theorem mS_zap_0 (x295 : Int) (x296 : Int × Y2) : Le (Sm_zap_0 x295 x296).ev (S_zap_0 x295 x296).ev := by
  unfold Sm_zap_0 S_zap_0
  try dsimp only
  repeat' first
    | with_reducible exact Le.refl _
    | with_reducible exact Le.f _
    | with_reducible refine Le.t ?_ ?_
    | with_reducible refine Le.g ?_
    | with_reducible refine Le.s (fun _ => ?_) (fun _ => ?_)
    | with_reducible refine Le.c ?_ (fun _ => ?_)
    | with_reducible assumption
    | with_reducible apply mF_zaj
    | with_reducible refine Le.bnd ?_
    | with_reducible intro _
theorem mL_zap_0 (x297 : Int) (x298 : Int × Y2) : Le (Lm_zap_0 x297 x298) (L_zap_0 x297 x298) := by
  unfold Lm_zap_0 L_zap_0
  refine Le.it (fun v => ?_) _ _
  apply mS_zap_0
  all_goals assumption
theorem mT_zap (x299 : Int) : Le (Tm_zap x299).ev (T_zap x299).ev := by
  unfold Tm_zap T_zap
  try dsimp only
  repeat' first
    | with_reducible exact Le.refl _
    | with_reducible exact Le.f _
    | with_reducible refine Le.t ?_ ?_
    | with_reducible refine Le.g ?_
    | with_reducible refine Le.s (fun _ => ?_) (fun _ => ?_)
    | with_reducible refine Le.c ?_ (fun _ => ?_)
    | with_reducible assumption
    | with_reducible apply mL_zap_0
    | with_reducible apply mF_zbi
    | with_reducible apply mF_zal
    | with_reducible refine Le.bnd ?_
    | with_reducible intro _
theorem mF_zap (x300 : Int) : Le (Fm_zap x300) (F_zap x300) := by
  unfold Fm_zap F_zap
  apply mT_zap
  all_goals assumption
theorem mS_zcx_0 (x301 : Y1 × Y1) (x302 : Int) : Le (Sm_zcx_0 x301 x302).ev (S_zcx_0 x301 x302).ev := by
  unfold Sm_zcx_0 S_zcx_0
  try dsimp only
  repeat' first
    | with_reducible exact Le.refl _
    | with_reducible exact Le.f _
    | with_reducible refine Le.t ?_ ?_
    | with_reducible refine Le.g ?_
    | with_reducible refine Le.s (fun _ => ?_) (fun _ => ?_)
    | with_reducible refine Le.c ?_ (fun _ => ?_)
    | with_reducible assumption
    | with_reducible refine Le.bnd ?_
    | with_reducible intro _
theorem mL_zcx_0 (x303 : Y1 × Y1) (x304 : Int) : Le (Lm_zcx_0 x303 x304) (L_zcx_0 x303 x304) := by
  unfold Lm_zcx_0 L_zcx_0
  refine Le.it (fun v => ?_) _ _
  apply mS_zcx_0
  all_goals assumption
theorem mT_zcx (x305 : Y1) (x306 : Y1) : Le (Tm_zcx x305 x306).ev (T_zcx x305 x306).ev := by
  unfold Tm_zcx T_zcx
  try dsimp only
  repeat' first
    | with_reducible exact Le.refl _
    | with_reducible exact Le.f _
    | with_reducible refine Le.t ?_ ?_
    | with_reducible refine Le.g ?_
    | with_reducible refine Le.s (fun _ => ?_) (fun _ => ?_)
    | with_reducible refine Le.c ?_ (fun _ => ?_)
    | with_reducible assumption
    | with_reducible apply mL_zcx_0
    | with_reducible refine Le.bnd ?_
    | with_reducible intro _
theorem mF_zcx (x307 : Y1) (x308 : Y1) : Le (Fm_zcx x307 x308) (F_zcx x307 x308) := by
  unfold Fm_zcx F_zcx
  apply mT_zcx
  all_goals assumption
theorem mS_zdc_2 (x309 : Int × (Y2 × (Int × Y1))) (x310 : Int) : Le (Sm_zdc_2 x309 x310).ev (S_zdc_2 x309 x310).ev := by
  unfold Sm_zdc_2 S_zdc_2
  try dsimp only
  repeat' first
    | with_reducible exact Le.refl _
    | with_reducible exact Le.f _
    | with_reducible refine Le.t ?_ ?_
    | with_reducible refine Le.g ?_
    | with_reducible refine Le.s (fun _ => ?_) (fun _ => ?_)
    | with_reducible refine Le.c ?_ (fun _ => ?_)
    | with_reducible assumption
    | with_reducible apply mF_zcx
    | with_reducible refine Le.bnd ?_
    | with_reducible intro _
theorem mL_zdc_2 (x311 : Int × (Y2 × (Int × Y1))) (x312 : Int) : Le (Lm_zdc_2 x311 x312) (L_zdc_2 x311 x312) := by
  unfold Lm_zdc_2 L_zdc_2
  refine Le.it (fun v => ?_) _ _
  apply mS_zdc_2
  all_goals assumption
theorem mS_zdc_0 (x313 : Int) (x314 : Y2 × Int) : Le (Sm_zdc_0 x313 x314).ev (S_zdc_0 x313 x314).ev := by
  unfold Sm_zdc_0 S_zdc_0
  try dsimp only
  repeat' first
    | with_reducible exact Le.refl _
    | with_reducible exact Le.f _
    | with_reducible refine Le.t ?_ ?_
    | with_reducible refine Le.g ?_
    | with_reducible refine Le.s (fun _ => ?_) (fun _ => ?_)
    | with_reducible refine Le.c ?_ (fun _ => ?_)
    | with_reducible assumption
    | with_reducible apply mF_zcy
    | with_reducible apply mL_zdc_2
    | with_reducible refine Le.bnd ?_
    | with_reducible intro _
theorem mL_zdc_0 (x315 : Int) (x316 : Y2 × Int) : Le (Lm_zdc_0 x315 x316) (L_zdc_0 x315 x316) := by
  unfold Lm_zdc_0 L_zdc_0
  refine Le.it (fun v => ?_) _ _
  apply mS_zdc_0
  all_goals assumption
theorem mT_zdc (x317 : Int) : Le (Tm_zdc x317).ev (T_zdc x317).ev := by
  unfold Tm_zdc T_zdc
  try dsimp only
  repeat' first
    | with_reducible exact Le.refl _
    | with_reducible exact Le.f _
    | with_reducible refine Le.t ?_ ?_
    | with_reducible refine Le.g ?_
    | with_reducible refine Le.s (fun _ => ?_) (fun _ => ?_)
    | with_reducible refine Le.c ?_ (fun _ => ?_)
    | with_reducible assumption
    | with_reducible apply mL_zdc_0
    | with_reducible refine Le.bnd ?_
    | with_reducible intro _
theorem mF_zdc (x318 : Int) : Le (Fm_zdc x318) (F_zdc x318) := by
  unfold Fm_zdc F_zdc
  apply mT_zdc
  all_goals assumption
theorem mS_zcc_0 (x319 : Y1) (x320 : Int × Int) : Le (Sm_zcc_0 x319 x320).ev (S_zcc_0 x319 x320).ev := by
  unfold Sm_zcc_0 S_zcc_0
  try dsimp only
  repeat' first
    | with_reducible exact Le.refl _
    | with_reducible exact Le.f _
    | with_reducible refine Le.t ?_ ?_
    | with_reducible refine Le.g ?_
    | with_reducible refine Le.s (fun _ => ?_) (fun _ => ?_)
    | with_reducible refine Le.c ?_ (fun _ => ?_)
    | with_reducible assumption
    | with_reducible refine Le.bnd ?_
    | with_reducible intro _
theorem mL_zcc_0 (x321 : Y1) (x322 : Int × Int) : Le (Lm_zcc_0 x321 x322) (L_zcc_0 x321 x322) := by
  unfold Lm_zcc_0 L_zcc_0
  refine Le.it (fun v => ?_) _ _
  apply mS_zcc_0
  all_goals assumption
theorem mT_zcc (x323 : Y1) : Le (Tm_zcc x323).ev (T_zcc x323).ev := by
  unfold Tm_zcc T_zcc
  try dsimp only
  repeat' first
    | with_reducible exact Le.refl _
    | with_reducible exact Le.f _
    | with_reducible refine Le.t ?_ ?_
    | with_reducible refine Le.g ?_
    | with_reducible refine Le.s (fun _ => ?_) (fun _ => ?_)
    | with_reducible refine Le.c ?_ (fun _ => ?_)
    | with_reducible assumption
    | with_reducible apply mL_zcc_0
    | with_reducible refine Le.bnd ?_
    | with_reducible intro _
theorem mF_zcc (x324 : Y1) : Le (Fm_zcc x324) (F_zcc x324) := by
  unfold Fm_zcc F_zcc
  apply mT_zcc
  all_goals assumption
end Go.Proofs.YtlmbhkmaflhagaaGreat
