import Derived.Test.YtlemejhffpkbkaaGreatEM1
namespace Go.Proofs.YtlemejhffpkbkaaGreat
theorem mS_zcn_0 (x1 : Int × Int) (x2 : Int × Y1) : Le (Sm_zcn_0 x1 x2).ev (S_zcn_0 x1 x2).ev := by
  unfold Sm_zcn_0 S_zcn_0
  try dsimp only
  repeat' first
    | with_reducible exact Le.refl _
    | with_reducible exact Le.f _
    | with_reducible refine Le.t ?_ ?_
    | with_reducible refine Le.g ?_
    | with_reducible refine Le.s (fun _ => ?_) (fun _ => ?_)
    | with_reducible refine Le.c ?_ (fun _ => ?_)
    | with_reducible assumption
    | with_reducible refine Le.bnd ?_
    | with_reducible intro _
theorem mL_zcn_0 (x3 : Int × Int) (x4 : Int × Y1) : Le (Lm_zcn_0 x3 x4) (L_zcn_0 x3 x4) := by
  unfold Lm_zcn_0 L_zcn_0
  refine Le.it (fun v => ?_) _ _
  apply mS_zcn_0
  all_goals assumption
theorem mT_zcn (x5 : Int) (x6 : Int) : Le (Tm_zcn x5 x6).ev (T_zcn x5 x6).ev := by
  unfold Tm_zcn T_zcn
  try dsimp only
  repeat' first
    | with_reducible exact Le.refl _
    | with_reducible exact Le.f _
    | with_reducible refine Le.t ?_ ?_
    | with_reducible refine Le.g ?_
    | with_reducible refine Le.s (fun _ => ?_) (fun _ => ?_)
    | with_reducible refine Le.c ?_ (fun _ => ?_)
    | with_reducible assumption
    | with_reducible apply mL_zcn_0
    | with_reducible refine Le.bnd ?_
    | with_reducible intro _
theorem mF_zcn (x7 : Int) (x8 : Int) : Le (Fm_zcn x7 x8) (F_zcn x7 x8) := by
  unfold Fm_zcn F_zcn
  apply mT_zcn
  all_goals assumption
theorem mT_zao (x9 : Int) : Le (Tm_zao x9).ev (T_zao x9).ev := by
  unfold Tm_zao T_zao
  try dsimp only
  repeat' first
    | with_reducible exact Le.refl _
    | with_reducible exact Le.f _
    | with_reducible refine Le.t ?_ ?_
    | with_reducible refine Le.g ?_
    | with_reducible refine Le.s (fun _ => ?_) (fun _ => ?_)
    | with_reducible refine Le.c ?_ (fun _ => ?_)
    | with_reducible assumption
    | with_reducible refine Le.bnd ?_
    | with_reducible intro _
theorem mF_zao (x10 : Int) : Le (Fm_zao x10) (F_zao x10) := by
  unfold Fm_zao F_zao
  apply mT_zao
  all_goals assumption
theorem mT_zan (x11 : Int) : Le (Tm_zan x11).ev (T_zan x11).ev := by
  unfold Tm_zan T_zan
  try dsimp only
  repeat' first
    | with_reducible exact Le.refl _
    | with_reducible exact Le.f _
    | with_reducible refine Le.t ?_ ?_
    | with_reducible refine Le.g ?_
    | with_reducible refine Le.s (fun _ => ?_) (fun _ => ?_)
    | with_reducible refine Le.c ?_ (fun _ => ?_)
    | with_reducible assumption
    | with_reducible apply mF_zao
    | with_reducible refine Le.bnd ?_
    | with_reducible intro _
theorem mF_zan (x12 : Int) : Le (Fm_zan x12) (F_zan x12) := by
  unfold Fm_zan F_zan
  apply mT_zan
  all_goals assumption
theorem mT_zd (x13 : Int) : Le (Tm_zd x13).ev (T_zd x13).ev := by
  unfold Tm_zd T_zd
  try dsimp only
  repeat' first
    | with_reducible exact Le.refl _
    | with_reducible exact Le.f _
    | with_reducible refine Le.t ?_ ?_
    | with_reducible refine Le.g ?_
    | with_reducible refine Le.s (fun _ => ?_) (fun _ => ?_)
    | with_reducible refine Le.c ?_ (fun _ => ?_)
    | with_reducible assumption
    | with_reducible refine Le.bnd ?_
    | with_reducible intro _
theorem mF_zd (x14 : Int) : Le (Fm_zd x14) (F_zd x14) := by
  unfold Fm_zd F_zd
  apply mT_zd
  all_goals assumption
theorem mT_zbi (x15 : Int) : Le (Tm_zbi x15).ev (T_zbi x15).ev := by
  unfold Tm_zbi T_zbi
  try dsimp only
  repeat' first
    | with_reducible exact Le.refl _
    | with_reducible exact Le.f _
    | with_reducible refine Le.t ?_ ?_
    | with_reducible refine Le.g ?_
    | with_reducible refine Le.s (fun _ => ?_) (fun _ => ?_)
    | with_reducible refine Le.c ?_ (fun _ => ?_)
    | with_reducible assumption
    | with_reducible apply mF_zan
    | with_reducible refine Le.bnd ?_
    | with_reducible intro _
theorem mF_zbi (x16 : Int) : Le (Fm_zbi x16) (F_zbi x16) := by
  unfold Fm_zbi F_zbi
  apply mT_zbi
  all_goals assumption
theorem mT_zbp (x17 : Int) : Le (Tm_zbp x17).ev (T_zbp x17).ev := by
  unfold Tm_zbp T_zbp
  try dsimp only
  repeat' first
    | with_reducible exact Le.refl _
    | with_reducible exact Le.f _
    | with_reducible refine Le.t ?_ ?_
    | with_reducible refine Le.g ?_
    | with_reducible refine Le.s (fun _ => ?_) (fun _ => ?_)
    | with_reducible refine Le.c ?_ (fun _ => ?_)
    | with_reducible assumption
    | with_reducible refine Le.bnd ?_
    | with_reducible intro _
theorem mF_zbp (x18 : Int) : Le (Fm_zbp x18) (F_zbp x18) := by
  unfold Fm_zbp F_zbp
  apply mT_zbp
  all_goals assumption
theorem mT_zy (x19 : Int) (x20 : Int) : Le (Tm_zy x19 x20).ev (T_zy x19 x20).ev := by
  unfold Tm_zy T_zy
  try dsimp only
  repeat' first
    | with_reducible exact Le.refl _
    | with_reducible exact Le.f _
    | with_reducible refine Le.t ?_ ?_
    | with_reducible refine Le.g ?_
    | with_reducible refine Le.s (fun _ => ?_) (fun _ => ?_)
    | with_reducible refine Le.c ?_ (fun _ => ?_)
    | with_reducible assumption
    | with_reducible refine Le.bnd ?_
    | with_reducible intro _
theorem mF_zy (x21 : Int) (x22 : Int) : Le (Fm_zy x21 x22) (F_zy x21 x22) := by
  unfold Fm_zy F_zy
  apply mT_zy
  all_goals assumption
theorem mS_zz_0 (x23 : Int) (x24 : Int × Y1) : Le (Sm_zz_0 x23 x24).ev (S_zz_0 x23 x24).ev := by
  unfold Sm_zz_0 S_zz_0
  try dsimp only
  repeat' first
    | with_reducible exact Le.refl _
    | with_reducible exact Le.f _
    | with_reducible refine Le.t ?_ ?_
    | with_reducible refine Le.g ?_
    | with_reducible refine Le.s (fun _ => ?_) (fun _ => ?_)
    | with_reducible refine Le.c ?_ (fun _ => ?_)
    | with_reducible assumption
    | with_reducible apply mF_zy
    | with_reducible refine Le.bnd ?_
    | with_reducible intro _
theorem mL_zz_0 (x25 : Int) (x26 : Int × Y1) : Le (Lm_zz_0 x25 x26) (L_zz_0 x25 x26) := by
  unfold Lm_zz_0 L_zz_0
  refine Le.it (fun v => ?_) _ _
  apply mS_zz_0
  all_goals assumption
theorem mT_zz (x27 : Int) : Le (Tm_zz x27).ev (T_zz x27).ev := by
  unfold Tm_zz T_zz
  try dsimp only
  repeat' first
    | with_reducible exact Le.refl _
    | with_reducible exact Le.f _
    | with_reducible refine Le.t ?_ ?_
    | with_reducible refine Le.g ?_
    | with_reducible refine Le.s (fun _ => ?_) (fun _ => ?_)
    | with_reducible refine Le.c ?_ (fun _ => ?_)
    | with_reducible assumption
    | with_reducible apply mL_zz_0
    | with_reducible refine Le.bnd ?_
    | with_reducible intro _
theorem mF_zz (x28 : Int) : Le (Fm_zz x28) (F_zz x28) := by
  unfold Fm_zz F_zz
  apply mT_zz
  all_goals assumption
theorem mS_zbc_2 (c29 : (Int)) (c30 : (Int)) (q31 q32 : ((HL [y1, y1] → Option (Int)))) (hq33 : ∀ h, Le (q31 h) (q32 h)) (c34 : Int) (x35 : Int × ((List Nat) × Y2)) : Le (Sm_zbc_2 (c29, (c30, (q31, c34))) x35).ev (S_zbc_2 (c29, (c30, (q32, c34))) x35).ev := by
  unfold Sm_zbc_2 S_zbc_2
  try dsimp only
  repeat' first
    | with_reducible exact Le.refl _
    | with_reducible exact Le.f _
    | with_reducible refine Le.t ?_ ?_
    | with_reducible refine Le.g ?_
    | with_reducible refine Le.s (fun _ => ?_) (fun _ => ?_)
    | with_reducible refine Le.c ?_ (fun _ => ?_)
    | with_reducible assumption
    | with_reducible apply hq33
    | with_reducible refine Le.bnd ?_
    | with_reducible intro _
theorem mL_zbc_2 (c36 : (Int)) (c37 : (Int)) (q38 q39 : ((HL [y1, y1] → Option (Int)))) (hq40 : ∀ h, Le (q38 h) (q39 h)) (c41 : Int) (x42 : Int × ((List Nat) × Y2)) : Le (Lm_zbc_2 (c36, (c37, (q38, c41))) x42) (L_zbc_2 (c36, (c37, (q39, c41))) x42) := by
  unfold Lm_zbc_2 L_zbc_2
  refine Le.it (fun v => ?_) _ _
  apply mS_zbc_2
  all_goals assumption
theorem mS_zbc_0 (c43 : (Int)) (c44 : (Int)) (q45 q46 : HL [y1, y1] → Option (Int)) (hq47 : ∀ h, Le (q45 h) (q46 h)) (x48 : Int × ((List Nat) × Y2)) : Le (Sm_zbc_0 (c43, (c44, q45)) x48).ev (S_zbc_0 (c43, (c44, q46)) x48).ev := by
  unfold Sm_zbc_0 S_zbc_0
  try dsimp only
  repeat' first
    | with_reducible exact Le.refl _
    | with_reducible exact Le.f _
    | with_reducible refine Le.t ?_ ?_
    | with_reducible refine Le.g ?_
    | with_reducible refine Le.s (fun _ => ?_) (fun _ => ?_)
    | with_reducible refine Le.c ?_ (fun _ => ?_)
    | with_reducible assumption
    | with_reducible apply hq47
    | with_reducible apply mL_zbc_2
    | with_reducible refine Le.bnd ?_
    | with_reducible intro _
theorem mL_zbc_0 (c49 : (Int)) (c50 : (Int)) (q51 q52 : HL [y1, y1] → Option (Int)) (hq53 : ∀ h, Le (q51 h) (q52 h)) (x54 : Int × ((List Nat) × Y2)) : Le (Lm_zbc_0 (c49, (c50, q51)) x54) (L_zbc_0 (c49, (c50, q52)) x54) := by
  unfold Lm_zbc_0 L_zbc_0
  refine Le.it (fun v => ?_) _ _
  apply mS_zbc_0
  all_goals assumption
theorem mT_zbc (x55 : Int) (x56 : Int) (q57 q58 : (HL [y1, y1] → Option (Int))) (hq59 : ∀ h, Le (q57 h) (q58 h)) (x60 : (List Nat) × Y2) : Le (Tm_zbc x55 x56 q57 x60).ev (T_zbc x55 x56 q58 x60).ev := by
  unfold Tm_zbc T_zbc
  try dsimp only
  repeat' first
    | with_reducible exact Le.refl _
    | with_reducible exact Le.f _
    | with_reducible refine Le.t ?_ ?_
    | with_reducible refine Le.g ?_
    | with_reducible refine Le.s (fun _ => ?_) (fun _ => ?_)
    | with_reducible refine Le.c ?_ (fun _ => ?_)
    | with_reducible assumption
    | with_reducible apply hq59
    | with_reducible apply mL_zbc_0
    | with_reducible refine Le.bnd ?_
    | with_reducible intro _
theorem mF_zbc (x61 : Int) (x62 : Int) (q63 q64 : (HL [y1, y1] → Option (Int))) (hq65 : ∀ h, Le (q63 h) (q64 h)) (x66 : (List Nat) × Y2) : Le (Fm_zbc x61 x62 q63 x66) (F_zbc x61 x62 q64 x66) := by
  unfold Fm_zbc F_zbc
  apply mT_zbc
  all_goals assumption
theorem mS_zay_0 (x67 : Int × (Int × Int)) (x68 : Int × (((List Nat) × Y2) × Int)) : Le (Sm_zay_0 x67 x68).ev (S_zay_0 x67 x68).ev := by
  unfold Sm_zay_0 S_zay_0
  try dsimp only
  repeat' first
    | with_reducible exact Le.refl _
    | with_reducible exact Le.f _
    | with_reducible refine Le.t ?_ ?_
    | with_reducible refine Le.g ?_
    | with_reducible refine Le.s (fun _ => ?_) (fun _ => ?_)
    | with_reducible refine Le.c ?_ (fun _ => ?_)
    | with_reducible assumption
    | with_reducible apply mF_zbp
    | with_reducible refine Le.bnd ?_
    | with_reducible intro _
theorem mL_zay_0 (x69 : Int × (Int × Int)) (x70 : Int × (((List Nat) × Y2) × Int)) : Le (Lm_zay_0 x69 x70) (L_zay_0 x69 x70) := by
  unfold Lm_zay_0 L_zay_0
  refine Le.it (fun v => ?_) _ _
  apply mS_zay_0
  all_goals assumption
theorem mT_zay (x71 : Int) (x72 : Int) (q73 q74 : (HL [y1, y1] → Option (Int))) (hq75 : ∀ h, Le (q73 h) (q74 h)) (x76 : (List Nat) × Y2) : Le (Tm_zay x71 x72 q73 x76).ev (T_zay x71 x72 q74 x76).ev := by
  unfold Tm_zay T_zay
  try dsimp only
  repeat' first
    | with_reducible exact Le.refl _
    | with_reducible exact Le.f _
    | with_reducible refine Le.t ?_ ?_
    | with_reducible refine Le.g ?_
    | with_reducible refine Le.s (fun _ => ?_) (fun _ => ?_)
    | with_reducible refine Le.c ?_ (fun _ => ?_)
    | with_reducible assumption
    | with_reducible apply hq75
    | with_reducible apply mF_zbi
    | with_reducible apply mL_zay_0
    | with_reducible refine Le.bnd ?_
    | with_reducible intro _
theorem mF_zay (x77 : Int) (x78 : Int) (q79 q80 : (HL [y1, y1] → Option (Int))) (hq81 : ∀ h, Le (q79 h) (q80 h)) (x82 : (List Nat) × Y2) : Le (Fm_zay x77 x78 q79 x82) (F_zay x77 x78 q80 x82) := by
  unfold Fm_zay F_zay
  apply mT_zay
  all_goals assumption
theorem mT_zbj (x83 : List Y1) (x84 : Int) (x85 : Int) (q86 q87 : (HL [y1, y1] → Option (Int))) (hq88 : ∀ h, Le (q86 h) (q87 h)) (x89 : Int) : Le (Tm_zbj x83 x84 x85 q86 x89).ev (T_zbj x83 x84 x85 q87 x89).ev := by
  unfold Tm_zbj T_zbj
  try dsimp only
  repeat' first
    | with_reducible exact Le.refl _
    | with_reducible exact Le.f _
    | with_reducible refine Le.t ?_ ?_
    | with_reducible refine Le.g ?_
    | with_reducible refine Le.s (fun _ => ?_) (fun _ => ?_)
    | with_reducible refine Le.c ?_ (fun _ => ?_)
    | with_reducible assumption
    | with_reducible apply hq88
    | with_reducible refine Le.bnd ?_
    | with_reducible intro _
theorem mF_zbj (x90 : List Y1) (x91 : Int) (x92 : Int) (q93 q94 : (HL [y1, y1] → Option (Int))) (hq95 : ∀ h, Le (q93 h) (q94 h)) (x96 : Int) : Le (Fm_zbj x90 x91 x92 q93 x96) (F_zbj x90 x91 x92 q94 x96) := by
  unfold Fm_zbj F_zbj
  apply mT_zbj
  all_goals assumption
theorem mT_zbg (x97 : List Y1) (x98 : Int) (x99 : Int) (x100 : Int) (q101 q102 : (HL [y1, y1] → Option (Int))) (hq103 : ∀ h, Le (q101 h) (q102 h)) (x104 : Int) : Le (Tm_zbg x97 x98 x99 x100 q101 x104).ev (T_zbg x97 x98 x99 x100 q102 x104).ev := by
  unfold Tm_zbg T_zbg
  try dsimp only
  repeat' first
    | with_reducible exact Le.refl _
    | with_reducible exact Le.f _
    | with_reducible refine Le.t ?_ ?_
    | with_reducible refine Le.g ?_
    | with_reducible refine Le.s (fun _ => ?_) (fun _ => ?_)
    | with_reducible refine Le.c ?_ (fun _ => ?_)
    | with_reducible assumption
    | with_reducible apply hq103
    | with_reducible apply mF_zbj
    | with_reducible refine Le.bnd ?_
    | with_reducible intro _
theorem mF_zbg (x105 : List Y1) (x106 : Int) (x107 : Int) (x108 : Int) (q109 q110 : (HL [y1, y1] → Option (Int))) (hq111 : ∀ h, Le (q109 h) (q110 h)) (x112 : Int) : Le (Fm_zbg x105 x106 x107 x108 q109 x112) (F_zbg x105 x106 x107 x108 q110 x112) := by
  unfold Fm_zbg F_zbg
  apply mT_zbg
  all_goals assumption
theorem mT_zbe (x113 : List Y1) (x114 : Int) (q115 q116 : (HL [y1, y1] → Option (Int))) (hq117 : ∀ h, Le (q115 h) (q116 h)) (x118 : Int) : Le (Tm_zbe x113 x114 q115 x118).ev (T_zbe x113 x114 q116 x118).ev := by
  unfold Tm_zbe T_zbe
  try dsimp only
  repeat' first
    | with_reducible exact Le.refl _
    | with_reducible exact Le.f _
    | with_reducible refine Le.t ?_ ?_
    | with_reducible refine Le.g ?_
    | with_reducible refine Le.s (fun _ => ?_) (fun _ => ?_)
    | with_reducible refine Le.c ?_ (fun _ => ?_)
    | with_reducible assumption
    | with_reducible apply hq117
    | with_reducible apply mF_zbg
    | with_reducible refine Le.bnd ?_
    | with_reducible intro _
theorem mF_zbe (x119 : List Y1) (x120 : Int) (q121 q122 : (HL [y1, y1] → Option (Int))) (hq123 : ∀ h, Le (q121 h) (q122 h)) (x124 : Int) : Le (Fm_zbe x119 x120 q121 x124) (F_zbe x119 x120 q122 x124) := by
  unfold Fm_zbe F_zbe
  apply mT_zbe
  all_goals assumption
theorem mT_zba (x125 : List Y1) (x126 : Int) (x127 : Int) (q128 q129 : (HL [y1, y1] → Option (Int))) (hq130 : ∀ h, Le (q128 h) (q129 h)) : Le (Tm_zba x125 x126 x127 q128).ev (T_zba x125 x126 x127 q129).ev := by
  unfold Tm_zba T_zba
  try dsimp only
  repeat' first
    | with_reducible exact Le.refl _
    | with_reducible exact Le.f _
    | with_reducible refine Le.t ?_ ?_
    | with_reducible refine Le.g ?_
    | with_reducible refine Le.s (fun _ => ?_) (fun _ => ?_)
    | with_reducible refine Le.c ?_ (fun _ => ?_)
    | with_reducible assumption
    | with_reducible apply hq130
    | with_reducible apply mF_zbe
    | with_reducible apply mF_zbg
    | with_reducible refine Le.bnd ?_
    | with_reducible intro _
theorem mF_zba (x131 : List Y1) (x132 : Int) (x133 : Int) (q134 q135 : (HL [y1, y1] → Option (Int))) (hq136 : ∀ h, Le (q134 h) (q135 h)) : Le (Fm_zba x131 x132 x133 q134) (F_zba x131 x132 x133 q135) := by
  unfold Fm_zba F_zba
  apply mT_zba
  all_goals assumption
theorem mS_zbl_0 (c137 : (Int)) (q138 q139 : ((HL [y1, y1] → Option (Int)))) (hq140 : ∀ h, Le (q138 h) (q139 h)) (c141 : (Int)) (c142 : (List Nat)) (c143 : List Y1) (x144 : Int) : Le (Sm_zbl_0 (c137, (q138, (c141, (c142, c143)))) x144).ev (S_zbl_0 (c137, (q139, (c141, (c142, c143)))) x144).ev := by
  unfold Sm_zbl_0 S_zbl_0
  try dsimp only
  repeat' first
    | with_reducible exact Le.refl _
    | with_reducible exact Le.f _
    | with_reducible refine Le.t ?_ ?_
    | with_reducible refine Le.g ?_
    | with_reducible refine Le.s (fun _ => ?_) (fun _ => ?_)
    | with_reducible refine Le.c ?_ (fun _ => ?_)
    | with_reducible assumption
    | with_reducible apply hq140
    | with_reducible refine Le.bnd ?_
    | with_reducible intro _
theorem mL_zbl_0 (c145 : (Int)) (q146 q147 : ((HL [y1, y1] → Option (Int)))) (hq148 : ∀ h, Le (q146 h) (q147 h)) (c149 : (Int)) (c150 : (List Nat)) (c151 : List Y1) (x152 : Int) : Le (Lm_zbl_0 (c145, (q146, (c149, (c150, c151)))) x152) (L_zbl_0 (c145, (q147, (c149, (c150, c151)))) x152) := by
  unfold Lm_zbl_0 L_zbl_0
  refine Le.it (fun v => ?_) _ _
  apply mS_zbl_0
  all_goals assumption
theorem mS_zbl_2 (c153 : (Int)) (q154 q155 : ((HL [y1, y1] → Option (Int)))) (hq156 : ∀ h, Le (q154 h) (q155 h)) (c157 : (Int)) (c158 : (List Nat)) (c159 : List Y1) (x160 : Int) : Le (Sm_zbl_2 (c153, (q154, (c157, (c158, c159)))) x160).ev (S_zbl_2 (c153, (q155, (c157, (c158, c159)))) x160).ev := by
  unfold Sm_zbl_2 S_zbl_2
  try dsimp only
  repeat' first
    | with_reducible exact Le.refl _
    | with_reducible exact Le.f _
    | with_reducible refine Le.t ?_ ?_
    | with_reducible refine Le.g ?_
    | with_reducible refine Le.s (fun _ => ?_) (fun _ => ?_)
    | with_reducible refine Le.c ?_ (fun _ => ?_)
    | with_reducible assumption
    | with_reducible apply hq156
    | with_reducible refine Le.bnd ?_
    | with_reducible intro _
theorem mL_zbl_2 (c161 : (Int)) (q162 q163 : ((HL [y1, y1] → Option (Int)))) (hq164 : ∀ h, Le (q162 h) (q163 h)) (c165 : (Int)) (c166 : (List Nat)) (c167 : List Y1) (x168 : Int) : Le (Lm_zbl_2 (c161, (q162, (c165, (c166, c167)))) x168) (L_zbl_2 (c161, (q163, (c165, (c166, c167)))) x168) := by
  unfold Lm_zbl_2 L_zbl_2
  refine Le.it (fun v => ?_) _ _
  apply mS_zbl_2
  all_goals assumption
theorem mS_zbl_6 (c169 : (Int)) (q170 q171 : ((HL [y1, y1] → Option (Int)))) (hq172 : ∀ h, Le (q170 h) (q171 h)) (c173 : (Int)) (c174 : (List Nat)) (c175 : List Y1) (x176 : Int) : Le (Sm_zbl_6 (c169, (q170, (c173, (c174, c175)))) x176).ev (S_zbl_6 (c169, (q171, (c173, (c174, c175)))) x176).ev := by
  unfold Sm_zbl_6 S_zbl_6
  try dsimp only
  repeat' first
    | with_reducible exact Le.refl _
    | with_reducible exact Le.f _
    | with_reducible refine Le.t ?_ ?_
    | with_reducible refine Le.g ?_
    | with_reducible refine Le.s (fun _ => ?_) (fun _ => ?_)
    | with_reducible refine Le.c ?_ (fun _ => ?_)
    | with_reducible assumption
    | with_reducible apply hq172
    | with_reducible refine Le.bnd ?_
    | with_reducible intro _
theorem mL_zbl_6 (c177 : (Int)) (q178 q179 : ((HL [y1, y1] → Option (Int)))) (hq180 : ∀ h, Le (q178 h) (q179 h)) (c181 : (Int)) (c182 : (List Nat)) (c183 : List Y1) (x184 : Int) : Le (Lm_zbl_6 (c177, (q178, (c181, (c182, c183)))) x184) (L_zbl_6 (c177, (q179, (c181, (c182, c183)))) x184) := by
  unfold Lm_zbl_6 L_zbl_6
  refine Le.it (fun v => ?_) _ _
  apply mS_zbl_6
  all_goals assumption
theorem mS_zbl_8 (c185 : (Int)) (q186 q187 : ((HL [y1, y1] → Option (Int)))) (hq188 : ∀ h, Le (q186 h) (q187 h)) (c189 : (Int)) (c190 : (List Nat)) (c191 : List Y1) (x192 : Int) : Le (Sm_zbl_8 (c185, (q186, (c189, (c190, c191)))) x192).ev (S_zbl_8 (c185, (q187, (c189, (c190, c191)))) x192).ev := by
  unfold Sm_zbl_8 S_zbl_8
  try dsimp only
  repeat' first
    | with_reducible exact Le.refl _
    | with_reducible exact Le.f _
    | with_reducible refine Le.t ?_ ?_
    | with_reducible refine Le.g ?_
    | with_reducible refine Le.s (fun _ => ?_) (fun _ => ?_)
    | with_reducible refine Le.c ?_ (fun _ => ?_)
    | with_reducible assumption
    | with_reducible apply hq188
    | with_reducible refine Le.bnd ?_
    | with_reducible intro _
theorem mL_zbl_8 (c193 : (Int)) (q194 q195 : ((HL [y1, y1] → Option (Int)))) (hq196 : ∀ h, Le (q194 h) (q195 h)) (c197 : (Int)) (c198 : (List Nat)) (c199 : List Y1) (x200 : Int) : Le (Lm_zbl_8 (c193, (q194, (c197, (c198, c199)))) x200) (L_zbl_8 (c193, (q195, (c197, (c198, c199)))) x200) := by
  unfold Lm_zbl_8 L_zbl_8
  refine Le.it (fun v => ?_) _ _
  apply mS_zbl_8
  all_goals assumption
theorem mS_zbl_4 (c201 : (Int)) (q202 q203 : HL [y1, y1] → Option (Int)) (hq204 : ∀ h, Le (q202 h) (q203 h)) (x205 : Int × (Int × ((List Nat) × Y2))) : Le (Sm_zbl_4 (c201, q202) x205).ev (S_zbl_4 (c201, q203) x205).ev := by
  unfold Sm_zbl_4 S_zbl_4
  try dsimp only
  repeat' first
    | with_reducible exact Le.refl _
    | with_reducible exact Le.f _
    | with_reducible refine Le.t ?_ ?_
    | with_reducible refine Le.g ?_
    | with_reducible refine Le.s (fun _ => ?_) (fun _ => ?_)
    | with_reducible refine Le.c ?_ (fun _ => ?_)
    | with_reducible assumption
    | with_reducible apply hq204
    | with_reducible apply mL_zbl_6
    | with_reducible apply mL_zbl_8
    | with_reducible refine Le.bnd ?_
    | with_reducible intro _
theorem mL_zbl_4 (c206 : (Int)) (q207 q208 : HL [y1, y1] → Option (Int)) (hq209 : ∀ h, Le (q207 h) (q208 h)) (x210 : Int × (Int × ((List Nat) × Y2))) : Le (Lm_zbl_4 (c206, q207) x210) (L_zbl_4 (c206, q208) x210) := by
  unfold Lm_zbl_4 L_zbl_4
  refine Le.it (fun v => ?_) _ _
  apply mS_zbl_4
  all_goals assumption
theorem mT_zbl (x211 : Int) (x212 : Int) (x213 : Int) (q214 q215 : (HL [y1, y1] → Option (Int))) (hq216 : ∀ h, Le (q214 h) (q215 h)) (x217 : (List Nat) × Y2) : Le (Tm_zbl x211 x212 x213 q214 x217).ev (T_zbl x211 x212 x213 q215 x217).ev := by
  unfold Tm_zbl T_zbl
  try dsimp only
  repeat' first
    | with_reducible exact Le.refl _
    | with_reducible exact Le.f _
    | with_reducible refine Le.t ?_ ?_
    | with_reducible refine Le.g ?_
    | with_reducible refine Le.s (fun _ => ?_) (fun _ => ?_)
    | with_reducible refine Le.c ?_ (fun _ => ?_)
    | with_reducible assumption
    | with_reducible apply hq216
    | with_reducible apply mL_zbl_0
    | with_reducible apply mL_zbl_2
    | with_reducible apply mL_zbl_4
    | with_reducible refine Le.bnd ?_
    | with_reducible intro _
theorem mF_zbl (x218 : Int) (x219 : Int) (x220 : Int) (q221 q222 : (HL [y1, y1] → Option (Int))) (hq223 : ∀ h, Le (q221 h) (q222 h)) (x224 : (List Nat) × Y2) : Le (Fm_zbl x218 x219 x220 q221 x224) (F_zbl x218 x219 x220 q222 x224) := by
  unfold Fm_zbl F_zbl
  apply mT_zbl
  all_goals assumption
theorem mS_zbn_0 (rec225 rec226 : (Int) → (Int) → (Int) → ((HL [y1, y1] → Option (Int))) → ((List Nat) × Y2) → Option ((List Nat) × Y2)) (hr227 : ∀ (x228 : (Int)) (x229 : (Int)) (x230 : (Int)) (q231 q232 : ((HL [y1, y1] → Option (Int)))) (hq233 : ∀ h, Le (q231 h) (q232 h)) (x234 : ((List Nat) × Y2)), Le (rec225 x228 x229 x230 q231 x234) (rec226 x228 x229 x230 q232 x234)) (q235 q236 : (HL [y1, y1] → Option (Int))) (hq237 : ∀ h, Le (q235 h) (q236 h)) (x238 : Int × (Int × (Int × (Bool × (Bool × ((List Nat) × Y2)))))) : Le (Sm_zbn_0 rec225 q235 x238).ev (S_zbn_0 rec226 q236 x238).ev := by
  unfold Sm_zbn_0 S_zbn_0
  try dsimp only
  repeat' first
    | with_reducible exact Le.refl _
    | with_reducible exact Le.f _
    | with_reducible refine Le.t ?_ ?_
    | with_reducible refine Le.g ?_
    | with_reducible refine Le.s (fun _ => ?_) (fun _ => ?_)
    | with_reducible refine Le.c ?_ (fun _ => ?_)
    | with_reducible assumption
    | with_reducible apply hr227
    | with_reducible apply hq237
    | with_reducible apply mF_zbc
    | with_reducible apply mF_zay
    | with_reducible apply mF_zba
    | with_reducible apply mF_zbl
    | with_reducible refine Le.bnd ?_
    | with_reducible intro _
theorem mL_zbn_0 (rec239 rec240 : (Int) → (Int) → (Int) → ((HL [y1, y1] → Option (Int))) → ((List Nat) × Y2) → Option ((List Nat) × Y2)) (hr241 : ∀ (x242 : (Int)) (x243 : (Int)) (x244 : (Int)) (q245 q246 : ((HL [y1, y1] → Option (Int)))) (hq247 : ∀ h, Le (q245 h) (q246 h)) (x248 : ((List Nat) × Y2)), Le (rec239 x242 x243 x244 q245 x248) (rec240 x242 x243 x244 q246 x248)) (q249 q250 : (HL [y1, y1] → Option (Int))) (hq251 : ∀ h, Le (q249 h) (q250 h)) (x252 : Int × (Int × (Int × (Bool × (Bool × ((List Nat) × Y2)))))) : Le (Lm_zbn_0 rec239 q249 x252) (L_zbn_0 rec240 q250 x252) := by
  unfold Lm_zbn_0 L_zbn_0
  refine Le.it (fun v => ?_) _ _
  apply mS_zbn_0
  all_goals assumption
theorem mT_zbn (rec253 rec254 : (Int) → (Int) → (Int) → ((HL [y1, y1] → Option (Int))) → ((List Nat) × Y2) → Option ((List Nat) × Y2)) (hr255 : ∀ (x256 : (Int)) (x257 : (Int)) (x258 : (Int)) (q259 q260 : ((HL [y1, y1] → Option (Int)))) (hq261 : ∀ h, Le (q259 h) (q260 h)) (x262 : ((List Nat) × Y2)), Le (rec253 x256 x257 x258 q259 x262) (rec254 x256 x257 x258 q260 x262)) (x263 : Int) (x264 : Int) (x265 : Int) (q266 q267 : (HL [y1, y1] → Option (Int))) (hq268 : ∀ h, Le (q266 h) (q267 h)) (x269 : (List Nat) × Y2) : Le (Tm_zbn rec253 x263 x264 x265 q266 x269).ev (T_zbn rec254 x263 x264 x265 q267 x269).ev := by
  unfold Tm_zbn T_zbn
  try dsimp only
  repeat' first
    | with_reducible exact Le.refl _
    | with_reducible exact Le.f _
    | with_reducible refine Le.t ?_ ?_
    | with_reducible refine Le.g ?_
    | with_reducible refine Le.s (fun _ => ?_) (fun _ => ?_)
    | with_reducible refine Le.c ?_ (fun _ => ?_)
    | with_reducible assumption
    | with_reducible apply hr255
    | with_reducible apply hq268
    | with_reducible apply mL_zbn_0
    | with_reducible refine Le.bnd ?_
    | with_reducible intro _
theorem mF_zbn : ∀ (n : Nat) (x270 : (Int)) (x271 : (Int)) (x272 : (Int)) (q273 q274 : ((HL [y1, y1] → Option (Int)))) (hq275 : ∀ h, Le (q273 h) (q274 h)) (x276 : ((List Nat) × Y2)), Le (Fm_zbn n x270 x271 x272 q273 x276) (F_zbn n x270 x271 x272 q274 x276)
  | 0 => by intros; exact Le.none _
  | n + 1 => by
    intros
    unfold Fm_zbn F_zbn
    apply mT_zbn
    · exact mF_zbn n
    all_goals assumption
theorem mT_zaw (q277 q278 : (HL [y1, y1] → Option (Int))) (hq279 : ∀ h, Le (q277 h) (q278 h)) (x280 : (List Nat) × Y2) : Le (Tm_zaw q277 x280).ev (T_zaw q278 x280).ev := by
  unfold Tm_zaw T_zaw
  try dsimp only
  repeat' first
    | with_reducible exact Le.refl _
    | with_reducible exact Le.f _
    | with_reducible refine Le.t ?_ ?_
    | with_reducible refine Le.g ?_
    | with_reducible refine Le.s (fun _ => ?_) (fun _ => ?_)
    | with_reducible refine Le.c ?_ (fun _ => ?_)
    | with_reducible assumption
    | with_reducible apply hq279
    | with_reducible apply mF_zan
    | with_reducible apply mF_zbn
    | with_reducible refine Le.bnd ?_
    | with_reducible intro _
theorem mF_zaw (q281 q282 : (HL [y1, y1] → Option (Int))) (hq283 : ∀ h, Le (q281 h) (q282 h)) (x284 : (List Nat) × Y2) : Le (Fm_zaw q281 x284) (F_zaw q282 x284) := by
  unfold Fm_zaw F_zaw
  apply mT_zaw
  all_goals assumption
theorem mT_za (x285 : Int) (x286 : Int) : Le (Tm_za x285 x286).ev (T_za x285 x286).ev := by
  unfold Tm_za T_za
  try dsimp only
  repeat' first
    | with_reducible exact Le.refl _
    | with_reducible exact Le.f _
    | with_reducible refine Le.t ?_ ?_
    | with_reducible refine Le.g ?_
    | with_reducible refine Le.s (fun _ => ?_) (fun _ => ?_)
    | with_reducible refine Le.c ?_ (fun _ => ?_)
    | with_reducible assumption
    | with_reducible apply mF_zd
    | with_reducible refine Le.bnd ?_
    | with_reducible intro _
theorem mF_za (x287 : Int) (x288 : Int) : Le (Fm_za x287 x288) (F_za x287 x288) := by
  unfold Fm_za F_za
  apply mT_za
  all_goals assumption
theorem mS_zap_0 (x289 : Y1 × (Y1 × (Y1 × Int))) (x290 : Int) : Le (Sm_zap_0 x289 x290).ev (S_zap_0 x289 x290).ev := by
  unfold Sm_zap_0 S_zap_0
  try dsimp only
  repeat' first
    | with_reducible exact Le.refl _
    | with_reducible exact Le.f _
    | with_reducible refine Le.t ?_ ?_
    | with_reducible refine Le.g ?_
    | with_reducible refine Le.s (fun _ => ?_) (fun _ => ?_)
    | with_reducible refine Le.c ?_ (fun _ => ?_)
    | with_reducible assumption
    | with_reducible apply mF_za
    | with_reducible refine Le.bnd ?_
    | with_reducible intro _
theorem mL_zap_0 (x291 : Y1 × (Y1 × (Y1 × Int))) (x292 : Int) : Le (Lm_zap_0 x291 x292) (L_zap_0 x291 x292) := by
  unfold Lm_zap_0 L_zap_0
  refine Le.it (fun v => ?_) _ _
  apply mS_zap_0
  all_goals assumption
theorem mT_zap (x293 : Y1) (x294 : Y1) : Le (Tm_zap x293 x294).ev (T_zap x293 x294).ev := by
  unfold Tm_zap T_zap
  try dsimp only
  repeat' first
    | with_reducible exact Le.refl _
    | with_reducible exact Le.f _
    | with_reducible refine Le.t ?_ ?_
    | with_reducible refine Le.g ?_
    | with_reducible refine Le.s (fun _ => ?_) (fun _ => ?_)
    | with_reducible refine Le.c ?_ (fun _ => ?_)
    | with_reducible assumption
    | with_reducible apply mL_zap_0
    | with_reducible refine Le.bnd ?_
    | with_reducible intro _
theorem mF_zap (x295 : Y1) (x296 : Y1) : Le (Fm_zap x295 x296) (F_zap x295 x296) := by
  unfold Fm_zap F_zap
  apply mT_zap
  all_goals assumption
theorem mS_zc_0 (x297 : Int × (Y1 × Int)) (x298 : Int) : Le (Sm_zc_0 x297 x298).ev (S_zc_0 x297 x298).ev := by
  unfold Sm_zc_0 S_zc_0
  try dsimp only
  repeat' first
    | with_reducible exact Le.refl _
    | with_reducible exact Le.f _
    | with_reducible refine Le.t ?_ ?_
    | with_reducible refine Le.g ?_
    | with_reducible refine Le.s (fun _ => ?_) (fun _ => ?_)
    | with_reducible refine Le.c ?_ (fun _ => ?_)
    | with_reducible assumption
    | with_reducible refine Le.bnd ?_
    | with_reducible intro _
theorem mL_zc_0 (x299 : Int × (Y1 × Int)) (x300 : Int) : Le (Lm_zc_0 x299 x300) (L_zc_0 x299 x300) := by
  unfold Lm_zc_0 L_zc_0
  refine Le.it (fun v => ?_) _ _
  apply mS_zc_0
  all_goals assumption
theorem mT_zc (x301 : Y1) : Le (Tm_zc x301).ev (T_zc x301).ev := by
  unfold Tm_zc T_zc
  try dsimp only
  repeat' first
    | with_reducible exact Le.refl _
    | with_reducible exact Le.f _
    | with_reducible refine Le.t ?_ ?_
    | with_reducible refine Le.g ?_
    | with_reducible refine Le.s (fun _ => ?_) (fun _ => ?_)
    | with_reducible refine Le.c ?_ (fun _ => ?_)
    | with_reducible assumption
    | with_reducible apply mL_zc_0
    | with_reducible refine Le.bnd ?_
    | with_reducible intro _
theorem mF_zc (x302 : Y1) : Le (Fm_zc x302) (F_zc x302) := by
  unfold Fm_zc F_zc
  apply mT_zc
  all_goals assumption
theorem mT_zab (x303 : Y1) (x304 : Y1) : Le (Tm_zab x303 x304).ev (T_zab x303 x304).ev := by
  unfold Tm_zab T_zab
  try dsimp only
  repeat' first
    | with_reducible exact Le.refl _
    | with_reducible exact Le.f _
    | with_reducible refine Le.t ?_ ?_
    | with_reducible refine Le.g ?_
    | with_reducible refine Le.s (fun _ => ?_) (fun _ => ?_)
    | with_reducible refine Le.c ?_ (fun _ => ?_)
    | with_reducible assumption
    | with_reducible apply mF_za
    | with_reducible apply mF_zap
    | with_reducible apply mF_zc
    | with_reducible refine Le.bnd ?_
    | with_reducible intro _
theorem mF_zab (x305 : Y1) (x306 : Y1) : Le (Fm_zab x305 x306) (F_zab x305 x306) := by
  unfold Fm_zab F_zab
  apply mT_zab
  all_goals assumption
theorem mS_zai_0 (x307 : Int) (x308 : Int × Y2) : Le (Sm_zai_0 x307 x308).ev (S_zai_0 x307 x308).ev := by
  unfold Sm_zai_0 S_zai_0
  try dsimp only
  repeat' first
    | with_reducible exact Le.refl _
    | with_reducible exact Le.f _
    | with_reducible refine Le.t ?_ ?_
    | with_reducible refine Le.g ?_
    | with_reducible refine Le.s (fun _ => ?_) (fun _ => ?_)
    | with_reducible refine Le.c ?_ (fun _ => ?_)
    | with_reducible assumption
    | with_reducible apply mF_zz
    | with_reducible refine Le.bnd ?_
    | with_reducible intro _
theorem mL_zai_0 (x309 : Int) (x310 : Int × Y2) : Le (Lm_zai_0 x309 x310) (L_zai_0 x309 x310) := by
  unfold Lm_zai_0 L_zai_0
  refine Le.it (fun v => ?_) _ _
  apply mS_zai_0
  all_goals assumption
theorem mT_zai (x311 : Int) : Le (Tm_zai x311).ev (T_zai x311).ev := by
  unfold Tm_zai T_zai
  try dsimp only
  repeat' first
    | with_reducible exact Le.refl _
    | with_reducible exact Le.f _
    | with_reducible refine Le.t ?_ ?_
    | with_reducible refine Le.g ?_
    | with_reducible refine Le.s (fun _ => ?_) (fun _ => ?_)
    | with_reducible refine Le.c ?_ (fun _ => ?_)
    | with_reducible assumption
    | with_reducible apply mL_zai_0
    | with_reducible apply mF_zaw
    | with_reducible apply mF_zab
    | with_reducible refine Le.bnd ?_
    | with_reducible intro _
theorem mF_zai (x312 : Int) : Le (Fm_zai x312) (F_zai x312) := by
  unfold Fm_zai F_zai
  apply mT_zai
  all_goals assumption
theorem mS_zcm_0 (x313 : Y1 × Y1) (x314 : Int) : Le (Sm_zcm_0 x313 x314).ev (S_zcm_0 x313 x314).ev := by
  unfold Sm_zcm_0 S_zcm_0
  try dsimp only
  repeat' first
    | with_reducible exact Le.refl _
    | with_reducible exact Le.f _
    | with_reducible refine Le.t ?_ ?_
    | with_reducible refine Le.g ?_
    | with_reducible refine Le.s (fun _ => ?_) (fun _ => ?_)
    | with_reducible refine Le.c ?_ (fun _ => ?_)
    | with_reducible assumption
    | with_reducible refine Le.bnd ?_
    | with_reducible intro _
theorem mL_zcm_0 (x315 : Y1 × Y1) (x316 : Int) : Le (Lm_zcm_0 x315 x316) (L_zcm_0 x315 x316) := by
  unfold Lm_zcm_0 L_zcm_0
  refine Le.it (fun v => ?_) _ _
  apply mS_zcm_0
  all_goals assumption
theorem mT_zcm (x317 : Y1) (x318 : Y1) : Le (Tm_zcm x317 x318).ev (T_zcm x317 x318).ev := by
  unfold Tm_zcm T_zcm
  try dsimp only
  repeat' first
    | with_reducible exact Le.refl _
    | with_reducible exact Le.f _
    | with_reducible refine Le.t ?_ ?_
    | with_reducible refine Le.g ?_
    | with_reducible refine Le.s (fun _ => ?_) (fun _ => ?_)
    | with_reducible refine Le.c ?_ (fun _ => ?_)
    | with_reducible assumption
    | with_reducible apply mL_zcm_0
    | with_reducible refine Le.bnd ?_
    | with_reducible intro _
theorem mF_zcm (x319 : Y1) (x320 : Y1) : Le (Fm_zcm x319 x320) (F_zcm x319 x320) := by
  unfold Fm_zcm F_zcm
  apply mT_zcm
  all_goals assumption
theorem mS_zcv_2 (x321 : Int × (Y2 × (Int × Y1))) (x322 : Int) : Le (Sm_zcv_2 x321 x322).ev (S_zcv_2 x321 x322).ev := by
  unfold Sm_zcv_2 S_zcv_2
  try dsimp only
  repeat' first
    | with_reducible exact Le.refl _
    | with_reducible exact Le.f _
    | with_reducible refine Le.t ?_ ?_
    | with_reducible refine Le.g ?_
    | with_reducible refine Le.s (fun _ => ?_) (fun _ => ?_)
    | with_reducible refine Le.c ?_ (fun _ => ?_)
    | with_reducible assumption
    | with_reducible apply mF_zcm
    | with_reducible refine Le.bnd ?_
    | with_reducible intro _
theorem mL_zcv_2 (x323 : Int × (Y2 × (Int × Y1))) (x324 : Int) : Le (Lm_zcv_2 x323 x324) (L_zcv_2 x323 x324) := by
  unfold Lm_zcv_2 L_zcv_2
  refine Le.it (fun v => ?_) _ _
  apply mS_zcv_2
  all_goals assumption
theorem mS_zcv_0 (x325 : Int) (x326 : Y2 × Int) : Le (Sm_zcv_0 x325 x326).ev (S_zcv_0 x325 x326).ev := by
  unfold Sm_zcv_0 S_zcv_0
  try dsimp only
  repeat' first
    | with_reducible exact Le.refl _
    | with_reducible exact Le.f _
    | with_reducible refine Le.t ?_ ?_
    | with_reducible refine Le.g ?_
    | with_reducible refine Le.s (fun _ => ?_) (fun _ => ?_)
    | with_reducible refine Le.c ?_ (fun _ => ?_)
    | with_reducible assumption
    | with_reducible apply mF_zcn
    | with_reducible apply mL_zcv_2
    | with_reducible refine Le.bnd ?_
    | with_reducible intro _
theorem mL_zcv_0 (x327 : Int) (x328 : Y2 × Int) : Le (Lm_zcv_0 x327 x328) (L_zcv_0 x327 x328) := by
  unfold Lm_zcv_0 L_zcv_0
  refine Le.it (fun v => ?_) _ _
  apply mS_zcv_0
  all_goals assumption
theorem mT_zcv (x329 : Int) : Le (Tm_zcv x329).ev (T_zcv x329).ev := by
  unfold Tm_zcv T_zcv
  try dsimp only
  repeat' first
    | with_reducible exact Le.refl _
    | with_reducible exact Le.f _
    | with_reducible refine Le.t ?_ ?_
    | with_reducible refine Le.g ?_
    | with_reducible refine Le.s (fun _ => ?_) (fun _ => ?_)
    | with_reducible refine Le.c ?_ (fun _ => ?_)
    | with_reducible assumption
    | with_reducible apply mL_zcv_0
    | with_reducible refine Le.bnd ?_
    | with_reducible intro _
theorem mF_zcv (x330 : Int) : Le (Fm_zcv x330) (F_zcv x330) := by
  unfold Fm_zcv F_zcv
  apply mT_zcv
  all_goals assumption
end Go.Proofs.YtlemejhffpkbkaaGreat
