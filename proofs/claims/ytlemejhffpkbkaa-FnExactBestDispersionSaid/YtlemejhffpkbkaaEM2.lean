import Derived.Test.YtlemejhffpkbkaaEM1
namespace Go.Proofs.Ytlemejhffpkbkaa
theorem mS_zba_0 (x1 : Int × Int) (x2 : Int × Y1) : Le (Sm_zba_0 x1 x2).ev (S_zba_0 x1 x2).ev := by
  unfold Sm_zba_0 S_zba_0
  try dsimp only
  repeat' first
    | with_reducible exact Le.refl _
    | with_reducible exact Le.f _
    | with_reducible refine Le.t ?_ ?_
    | with_reducible refine Le.g ?_
    | with_reducible refine Le.s (fun _ => ?_) (fun _ => ?_)
    | with_reducible refine Le.c ?_ (fun _ => ?_)
    | with_reducible assumption
    | with_reducible refine Le.bnd ?_
    | with_reducible intro _
theorem mL_zba_0 (x3 : Int × Int) (x4 : Int × Y1) : Le (Lm_zba_0 x3 x4) (L_zba_0 x3 x4) := by
  unfold Lm_zba_0 L_zba_0
  refine Le.it (fun v => ?_) _ _
  apply mS_zba_0
  all_goals assumption
theorem mT_zba (x5 : Int) (x6 : Int) : Le (Tm_zba x5 x6).ev (T_zba x5 x6).ev := by
  unfold Tm_zba T_zba
  try dsimp only
  repeat' first
    | with_reducible exact Le.refl _
    | with_reducible exact Le.f _
    | with_reducible refine Le.t ?_ ?_
    | with_reducible refine Le.g ?_
    | with_reducible refine Le.s (fun _ => ?_) (fun _ => ?_)
    | with_reducible refine Le.c ?_ (fun _ => ?_)
    | with_reducible assumption
    | with_reducible apply mL_zba_0
    | with_reducible refine Le.bnd ?_
    | with_reducible intro _
theorem mF_zba (x7 : Int) (x8 : Int) : Le (Fm_zba x7 x8) (F_zba x7 x8) := by
  unfold Fm_zba F_zba
  apply mT_zba
  all_goals assumption
theorem mS_zaz_0 (x9 : Y1 × Y1) (x10 : Int) : Le (Sm_zaz_0 x9 x10).ev (S_zaz_0 x9 x10).ev := by
  unfold Sm_zaz_0 S_zaz_0
  try dsimp only
  repeat' first
    | with_reducible exact Le.refl _
    | with_reducible exact Le.f _
    | with_reducible refine Le.t ?_ ?_
    | with_reducible refine Le.g ?_
    | with_reducible refine Le.s (fun _ => ?_) (fun _ => ?_)
    | with_reducible refine Le.c ?_ (fun _ => ?_)
    | with_reducible assumption
    | with_reducible refine Le.bnd ?_
    | with_reducible intro _
theorem mL_zaz_0 (x11 : Y1 × Y1) (x12 : Int) : Le (Lm_zaz_0 x11 x12) (L_zaz_0 x11 x12) := by
  unfold Lm_zaz_0 L_zaz_0
  refine Le.it (fun v => ?_) _ _
  apply mS_zaz_0
  all_goals assumption
theorem mT_zaz (x13 : Y1) (x14 : Y1) : Le (Tm_zaz x13 x14).ev (T_zaz x13 x14).ev := by
  unfold Tm_zaz T_zaz
  try dsimp only
  repeat' first
    | with_reducible exact Le.refl _
    | with_reducible exact Le.f _
    | with_reducible refine Le.t ?_ ?_
    | with_reducible refine Le.g ?_
    | with_reducible refine Le.s (fun _ => ?_) (fun _ => ?_)
    | with_reducible refine Le.c ?_ (fun _ => ?_)
    | with_reducible assumption
    | with_reducible apply mL_zaz_0
    | with_reducible refine Le.bnd ?_
    | with_reducible intro _
theorem mF_zaz (x15 : Y1) (x16 : Y1) : Le (Fm_zaz x15 x16) (F_zaz x15 x16) := by
  unfold Fm_zaz F_zaz
  apply mT_zaz
  all_goals assumption
theorem mS_zbc_2 (x17 : Int × (Y2 × (Int × Y1))) (x18 : Int) : Le (Sm_zbc_2 x17 x18).ev (S_zbc_2 x17 x18).ev := by
  unfold Sm_zbc_2 S_zbc_2
  try dsimp only
  repeat' first
    | with_reducible exact Le.refl _
    | with_reducible exact Le.f _
    | with_reducible refine Le.t ?_ ?_
    | with_reducible refine Le.g ?_
    | with_reducible refine Le.s (fun _ => ?_) (fun _ => ?_)
    | with_reducible refine Le.c ?_ (fun _ => ?_)
    | with_reducible assumption
    | with_reducible apply mF_zaz
    | with_reducible refine Le.bnd ?_
    | with_reducible intro _
theorem mL_zbc_2 (x19 : Int × (Y2 × (Int × Y1))) (x20 : Int) : Le (Lm_zbc_2 x19 x20) (L_zbc_2 x19 x20) := by
  unfold Lm_zbc_2 L_zbc_2
  refine Le.it (fun v => ?_) _ _
  apply mS_zbc_2
  all_goals assumption
theorem mS_zbc_0 (x21 : Int) (x22 : Y2 × Int) : Le (Sm_zbc_0 x21 x22).ev (S_zbc_0 x21 x22).ev := by
  unfold Sm_zbc_0 S_zbc_0
  try dsimp only
  repeat' first
    | with_reducible exact Le.refl _
    | with_reducible exact Le.f _
    | with_reducible refine Le.t ?_ ?_
    | with_reducible refine Le.g ?_
    | with_reducible refine Le.s (fun _ => ?_) (fun _ => ?_)
    | with_reducible refine Le.c ?_ (fun _ => ?_)
    | with_reducible assumption
    | with_reducible apply mF_zba
    | with_reducible apply mL_zbc_2
    | with_reducible refine Le.bnd ?_
    | with_reducible intro _
theorem mL_zbc_0 (x23 : Int) (x24 : Y2 × Int) : Le (Lm_zbc_0 x23 x24) (L_zbc_0 x23 x24) := by
  unfold Lm_zbc_0 L_zbc_0
  refine Le.it (fun v => ?_) _ _
  apply mS_zbc_0
  all_goals assumption
theorem mT_zbc (x25 : Int) : Le (Tm_zbc x25).ev (T_zbc x25).ev := by
  unfold Tm_zbc T_zbc
  try dsimp only
  repeat' first
    | with_reducible exact Le.refl _
    | with_reducible exact Le.f _
    | with_reducible refine Le.t ?_ ?_
    | with_reducible refine Le.g ?_
    | with_reducible refine Le.s (fun _ => ?_) (fun _ => ?_)
    | with_reducible refine Le.c ?_ (fun _ => ?_)
    | with_reducible assumption
    | with_reducible apply mL_zbc_0
    | with_reducible refine Le.bnd ?_
    | with_reducible intro _
theorem mF_zbc (x26 : Int) : Le (Fm_zbc x26) (F_zbc x26) := by
  unfold Fm_zbc F_zbc
  apply mT_zbc
  all_goals assumption
theorem mT_zi (x27 : Int) (x28 : Int) : Le (Tm_zi x27 x28).ev (T_zi x27 x28).ev := by
  unfold Tm_zi T_zi
  try dsimp only
  repeat' first
    | with_reducible exact Le.refl _
    | with_reducible exact Le.f _
    | with_reducible refine Le.t ?_ ?_
    | with_reducible refine Le.g ?_
    | with_reducible refine Le.s (fun _ => ?_) (fun _ => ?_)
    | with_reducible refine Le.c ?_ (fun _ => ?_)
    | with_reducible assumption
    | with_reducible refine Le.bnd ?_
    | with_reducible intro _
theorem mF_zi (x29 : Int) (x30 : Int) : Le (Fm_zi x29 x30) (F_zi x29 x30) := by
  unfold Fm_zi F_zi
  apply mT_zi
  all_goals assumption
theorem mS_zj_0 (x31 : Int) (x32 : Int × Y1) : Le (Sm_zj_0 x31 x32).ev (S_zj_0 x31 x32).ev := by
  unfold Sm_zj_0 S_zj_0
  try dsimp only
  repeat' first
    | with_reducible exact Le.refl _
    | with_reducible exact Le.f _
    | with_reducible refine Le.t ?_ ?_
    | with_reducible refine Le.g ?_
    | with_reducible refine Le.s (fun _ => ?_) (fun _ => ?_)
    | with_reducible refine Le.c ?_ (fun _ => ?_)
    | with_reducible assumption
    | with_reducible apply mF_zi
    | with_reducible refine Le.bnd ?_
    | with_reducible intro _
theorem mL_zj_0 (x33 : Int) (x34 : Int × Y1) : Le (Lm_zj_0 x33 x34) (L_zj_0 x33 x34) := by
  unfold Lm_zj_0 L_zj_0
  refine Le.it (fun v => ?_) _ _
  apply mS_zj_0
  all_goals assumption
theorem mT_zj (x35 : Int) : Le (Tm_zj x35).ev (T_zj x35).ev := by
  unfold Tm_zj T_zj
  try dsimp only
  repeat' first
    | with_reducible exact Le.refl _
    | with_reducible exact Le.f _
    | with_reducible refine Le.t ?_ ?_
    | with_reducible refine Le.g ?_
    | with_reducible refine Le.s (fun _ => ?_) (fun _ => ?_)
    | with_reducible refine Le.c ?_ (fun _ => ?_)
    | with_reducible assumption
    | with_reducible apply mL_zj_0
    | with_reducible refine Le.bnd ?_
    | with_reducible intro _
theorem mF_zj (x36 : Int) : Le (Fm_zj x36) (F_zj x36) := by
  unfold Fm_zj F_zj
  apply mT_zj
  all_goals assumption
theorem mT_zac (x37 : Int) : Le (Tm_zac x37).ev (T_zac x37).ev := by
  unfold Tm_zac T_zac
  try dsimp only
  repeat' first
    | with_reducible exact Le.refl _
    | with_reducible exact Le.f _
    | with_reducible refine Le.t ?_ ?_
    | with_reducible refine Le.g ?_
    | with_reducible refine Le.s (fun _ => ?_) (fun _ => ?_)
    | with_reducible refine Le.c ?_ (fun _ => ?_)
    | with_reducible assumption
    | with_reducible refine Le.bnd ?_
    | with_reducible intro _
theorem mF_zac (x38 : Int) : Le (Fm_zac x38) (F_zac x38) := by
  unfold Fm_zac F_zac
  apply mT_zac
  all_goals assumption
theorem mT_zab (x39 : Int) : Le (Tm_zab x39).ev (T_zab x39).ev := by
  unfold Tm_zab T_zab
  try dsimp only
  repeat' first
    | with_reducible exact Le.refl _
    | with_reducible exact Le.f _
    | with_reducible refine Le.t ?_ ?_
    | with_reducible refine Le.g ?_
    | with_reducible refine Le.s (fun _ => ?_) (fun _ => ?_)
    | with_reducible refine Le.c ?_ (fun _ => ?_)
    | with_reducible assumption
    | with_reducible apply mF_zac
    | with_reducible refine Le.bnd ?_
    | with_reducible intro _
theorem mF_zab (x40 : Int) : Le (Fm_zab x40) (F_zab x40) := by
  unfold Fm_zab F_zab
  apply mT_zab
  all_goals assumption
theorem mS_zal_2 (c41 : (Int)) (c42 : (Int)) (q43 q44 : ((HL [y1, y1] → Option (Int)))) (hq45 : ∀ h, Le (q43 h) (q44 h)) (c46 : Int) (x47 : Int × ((List Nat) × Y2)) : Le (Sm_zal_2 (c41, (c42, (q43, c46))) x47).ev (S_zal_2 (c41, (c42, (q44, c46))) x47).ev := by
  unfold Sm_zal_2 S_zal_2
  try dsimp only
  repeat' first
    | with_reducible exact Le.refl _
    | with_reducible exact Le.f _
    | with_reducible refine Le.t ?_ ?_
    | with_reducible refine Le.g ?_
    | with_reducible refine Le.s (fun _ => ?_) (fun _ => ?_)
    | with_reducible refine Le.c ?_ (fun _ => ?_)
    | with_reducible assumption
    | with_reducible apply hq45
    | with_reducible refine Le.bnd ?_
    | with_reducible intro _
theorem mL_zal_2 (c48 : (Int)) (c49 : (Int)) (q50 q51 : ((HL [y1, y1] → Option (Int)))) (hq52 : ∀ h, Le (q50 h) (q51 h)) (c53 : Int) (x54 : Int × ((List Nat) × Y2)) : Le (Lm_zal_2 (c48, (c49, (q50, c53))) x54) (L_zal_2 (c48, (c49, (q51, c53))) x54) := by
  unfold Lm_zal_2 L_zal_2
  refine Le.it (fun v => ?_) _ _
  apply mS_zal_2
  all_goals assumption
theorem mS_zal_0 (c55 : (Int)) (c56 : (Int)) (q57 q58 : HL [y1, y1] → Option (Int)) (hq59 : ∀ h, Le (q57 h) (q58 h)) (x60 : Int × ((List Nat) × Y2)) : Le (Sm_zal_0 (c55, (c56, q57)) x60).ev (S_zal_0 (c55, (c56, q58)) x60).ev := by
  unfold Sm_zal_0 S_zal_0
  try dsimp only
  repeat' first
    | with_reducible exact Le.refl _
    | with_reducible exact Le.f _
    | with_reducible refine Le.t ?_ ?_
    | with_reducible refine Le.g ?_
    | with_reducible refine Le.s (fun _ => ?_) (fun _ => ?_)
    | with_reducible refine Le.c ?_ (fun _ => ?_)
    | with_reducible assumption
    | with_reducible apply hq59
    | with_reducible apply mL_zal_2
    | with_reducible refine Le.bnd ?_
    | with_reducible intro _
theorem mL_zal_0 (c61 : (Int)) (c62 : (Int)) (q63 q64 : HL [y1, y1] → Option (Int)) (hq65 : ∀ h, Le (q63 h) (q64 h)) (x66 : Int × ((List Nat) × Y2)) : Le (Lm_zal_0 (c61, (c62, q63)) x66) (L_zal_0 (c61, (c62, q64)) x66) := by
  unfold Lm_zal_0 L_zal_0
  refine Le.it (fun v => ?_) _ _
  apply mS_zal_0
  all_goals assumption
theorem mT_zal (x67 : Int) (x68 : Int) (q69 q70 : (HL [y1, y1] → Option (Int))) (hq71 : ∀ h, Le (q69 h) (q70 h)) (x72 : (List Nat) × Y2) : Le (Tm_zal x67 x68 q69 x72).ev (T_zal x67 x68 q70 x72).ev := by
  unfold Tm_zal T_zal
  try dsimp only
  repeat' first
    | with_reducible exact Le.refl _
    | with_reducible exact Le.f _
    | with_reducible refine Le.t ?_ ?_
    | with_reducible refine Le.g ?_
    | with_reducible refine Le.s (fun _ => ?_) (fun _ => ?_)
    | with_reducible refine Le.c ?_ (fun _ => ?_)
    | with_reducible assumption
    | with_reducible apply hq71
    | with_reducible apply mL_zal_0
    | with_reducible refine Le.bnd ?_
    | with_reducible intro _
theorem mF_zal (x73 : Int) (x74 : Int) (q75 q76 : (HL [y1, y1] → Option (Int))) (hq77 : ∀ h, Le (q75 h) (q76 h)) (x78 : (List Nat) × Y2) : Le (Fm_zal x73 x74 q75 x78) (F_zal x73 x74 q76 x78) := by
  unfold Fm_zal F_zal
  apply mT_zal
  all_goals assumption
theorem mT_zao (x79 : Int) : Le (Tm_zao x79).ev (T_zao x79).ev := by
  unfold Tm_zao T_zao
  try dsimp only
  repeat' first
    | with_reducible exact Le.refl _
    | with_reducible exact Le.f _
    | with_reducible refine Le.t ?_ ?_
    | with_reducible refine Le.g ?_
    | with_reducible refine Le.s (fun _ => ?_) (fun _ => ?_)
    | with_reducible refine Le.c ?_ (fun _ => ?_)
    | with_reducible assumption
    | with_reducible apply mF_zab
    | with_reducible refine Le.bnd ?_
    | with_reducible intro _
theorem mF_zao (x80 : Int) : Le (Fm_zao x80) (F_zao x80) := by
  unfold Fm_zao F_zao
  apply mT_zao
  all_goals assumption
theorem mT_zas (x81 : Int) : Le (Tm_zas x81).ev (T_zas x81).ev := by
  unfold Tm_zas T_zas
  try dsimp only
  repeat' first
    | with_reducible exact Le.refl _
    | with_reducible exact Le.f _
    | with_reducible refine Le.t ?_ ?_
    | with_reducible refine Le.g ?_
    | with_reducible refine Le.s (fun _ => ?_) (fun _ => ?_)
    | with_reducible refine Le.c ?_ (fun _ => ?_)
    | with_reducible assumption
    | with_reducible refine Le.bnd ?_
    | with_reducible intro _
theorem mF_zas (x82 : Int) : Le (Fm_zas x82) (F_zas x82) := by
  unfold Fm_zas F_zas
  apply mT_zas
  all_goals assumption
theorem mS_zaj_0 (x83 : Int × (Int × Int)) (x84 : Int × (((List Nat) × Y2) × Int)) : Le (Sm_zaj_0 x83 x84).ev (S_zaj_0 x83 x84).ev := by
  unfold Sm_zaj_0 S_zaj_0
  try dsimp only
  repeat' first
    | with_reducible exact Le.refl _
    | with_reducible exact Le.f _
    | with_reducible refine Le.t ?_ ?_
    | with_reducible refine Le.g ?_
    | with_reducible refine Le.s (fun _ => ?_) (fun _ => ?_)
    | with_reducible refine Le.c ?_ (fun _ => ?_)
    | with_reducible assumption
    | with_reducible apply mF_zas
    | with_reducible refine Le.bnd ?_
    | with_reducible intro _
theorem mL_zaj_0 (x85 : Int × (Int × Int)) (x86 : Int × (((List Nat) × Y2) × Int)) : Le (Lm_zaj_0 x85 x86) (L_zaj_0 x85 x86) := by
  unfold Lm_zaj_0 L_zaj_0
  refine Le.it (fun v => ?_) _ _
  apply mS_zaj_0
  all_goals assumption
theorem mT_zaj (x87 : Int) (x88 : Int) (q89 q90 : (HL [y1, y1] → Option (Int))) (hq91 : ∀ h, Le (q89 h) (q90 h)) (x92 : (List Nat) × Y2) : Le (Tm_zaj x87 x88 q89 x92).ev (T_zaj x87 x88 q90 x92).ev := by
  unfold Tm_zaj T_zaj
  try dsimp only
  repeat' first
    | with_reducible exact Le.refl _
    | with_reducible exact Le.f _
    | with_reducible refine Le.t ?_ ?_
    | with_reducible refine Le.g ?_
    | with_reducible refine Le.s (fun _ => ?_) (fun _ => ?_)
    | with_reducible refine Le.c ?_ (fun _ => ?_)
    | with_reducible assumption
    | with_reducible apply hq91
    | with_reducible apply mF_zao
    | with_reducible apply mL_zaj_0
    | with_reducible refine Le.bnd ?_
    | with_reducible intro _
theorem mF_zaj (x93 : Int) (x94 : Int) (q95 q96 : (HL [y1, y1] → Option (Int))) (hq97 : ∀ h, Le (q95 h) (q96 h)) (x98 : (List Nat) × Y2) : Le (Fm_zaj x93 x94 q95 x98) (F_zaj x93 x94 q96 x98) := by
  unfold Fm_zaj F_zaj
  apply mT_zaj
  all_goals assumption
theorem mT_zap (x99 : List Y1) (x100 : Int) (x101 : Int) (q102 q103 : (HL [y1, y1] → Option (Int))) (hq104 : ∀ h, Le (q102 h) (q103 h)) (x105 : Int) : Le (Tm_zap x99 x100 x101 q102 x105).ev (T_zap x99 x100 x101 q103 x105).ev := by
  unfold Tm_zap T_zap
  try dsimp only
  repeat' first
    | with_reducible exact Le.refl _
    | with_reducible exact Le.f _
    | with_reducible refine Le.t ?_ ?_
    | with_reducible refine Le.g ?_
    | with_reducible refine Le.s (fun _ => ?_) (fun _ => ?_)
    | with_reducible refine Le.c ?_ (fun _ => ?_)
    | with_reducible assumption
    | with_reducible apply hq104
    | with_reducible refine Le.bnd ?_
    | with_reducible intro _
theorem mF_zap (x106 : List Y1) (x107 : Int) (x108 : Int) (q109 q110 : (HL [y1, y1] → Option (Int))) (hq111 : ∀ h, Le (q109 h) (q110 h)) (x112 : Int) : Le (Fm_zap x106 x107 x108 q109 x112) (F_zap x106 x107 x108 q110 x112) := by
  unfold Fm_zap F_zap
  apply mT_zap
  all_goals assumption
theorem mT_zan (x113 : List Y1) (x114 : Int) (x115 : Int) (x116 : Int) (q117 q118 : (HL [y1, y1] → Option (Int))) (hq119 : ∀ h, Le (q117 h) (q118 h)) (x120 : Int) : Le (Tm_zan x113 x114 x115 x116 q117 x120).ev (T_zan x113 x114 x115 x116 q118 x120).ev := by
  unfold Tm_zan T_zan
  try dsimp only
  repeat' first
    | with_reducible exact Le.refl _
    | with_reducible exact Le.f _
    | with_reducible refine Le.t ?_ ?_
    | with_reducible refine Le.g ?_
    | with_reducible refine Le.s (fun _ => ?_) (fun _ => ?_)
    | with_reducible refine Le.c ?_ (fun _ => ?_)
    | with_reducible assumption
    | with_reducible apply hq119
    | with_reducible apply mF_zap
    | with_reducible refine Le.bnd ?_
    | with_reducible intro _
theorem mF_zan (x121 : List Y1) (x122 : Int) (x123 : Int) (x124 : Int) (q125 q126 : (HL [y1, y1] → Option (Int))) (hq127 : ∀ h, Le (q125 h) (q126 h)) (x128 : Int) : Le (Fm_zan x121 x122 x123 x124 q125 x128) (F_zan x121 x122 x123 x124 q126 x128) := by
  unfold Fm_zan F_zan
  apply mT_zan
  all_goals assumption
theorem mT_zam (x129 : List Y1) (x130 : Int) (q131 q132 : (HL [y1, y1] → Option (Int))) (hq133 : ∀ h, Le (q131 h) (q132 h)) (x134 : Int) : Le (Tm_zam x129 x130 q131 x134).ev (T_zam x129 x130 q132 x134).ev := by
  unfold Tm_zam T_zam
  try dsimp only
  repeat' first
    | with_reducible exact Le.refl _
    | with_reducible exact Le.f _
    | with_reducible refine Le.t ?_ ?_
    | with_reducible refine Le.g ?_
    | with_reducible refine Le.s (fun _ => ?_) (fun _ => ?_)
    | with_reducible refine Le.c ?_ (fun _ => ?_)
    | with_reducible assumption
    | with_reducible apply hq133
    | with_reducible apply mF_zan
    | with_reducible refine Le.bnd ?_
    | with_reducible intro _
theorem mF_zam (x135 : List Y1) (x136 : Int) (q137 q138 : (HL [y1, y1] → Option (Int))) (hq139 : ∀ h, Le (q137 h) (q138 h)) (x140 : Int) : Le (Fm_zam x135 x136 q137 x140) (F_zam x135 x136 q138 x140) := by
  unfold Fm_zam F_zam
  apply mT_zam
  all_goals assumption
theorem mT_zak (x141 : List Y1) (x142 : Int) (x143 : Int) (q144 q145 : (HL [y1, y1] → Option (Int))) (hq146 : ∀ h, Le (q144 h) (q145 h)) : Le (Tm_zak x141 x142 x143 q144).ev (T_zak x141 x142 x143 q145).ev := by
  unfold Tm_zak T_zak
  try dsimp only
  repeat' first
    | with_reducible exact Le.refl _
    | with_reducible exact Le.f _
    | with_reducible refine Le.t ?_ ?_
    | with_reducible refine Le.g ?_
    | with_reducible refine Le.s (fun _ => ?_) (fun _ => ?_)
    | with_reducible refine Le.c ?_ (fun _ => ?_)
    | with_reducible assumption
    | with_reducible apply hq146
    | with_reducible apply mF_zam
    | with_reducible apply mF_zan
    | with_reducible refine Le.bnd ?_
    | with_reducible intro _
theorem mF_zak (x147 : List Y1) (x148 : Int) (x149 : Int) (q150 q151 : (HL [y1, y1] → Option (Int))) (hq152 : ∀ h, Le (q150 h) (q151 h)) : Le (Fm_zak x147 x148 x149 q150) (F_zak x147 x148 x149 q151) := by
  unfold Fm_zak F_zak
  apply mT_zak
  all_goals assumption
theorem mS_zaq_0 (c153 : (Int)) (q154 q155 : ((HL [y1, y1] → Option (Int)))) (hq156 : ∀ h, Le (q154 h) (q155 h)) (c157 : (Int)) (c158 : (List Nat)) (c159 : List Y1) (x160 : Int) : Le (Sm_zaq_0 (c153, (q154, (c157, (c158, c159)))) x160).ev (S_zaq_0 (c153, (q155, (c157, (c158, c159)))) x160).ev := by
  unfold Sm_zaq_0 S_zaq_0
  try dsimp only
  repeat' first
    | with_reducible exact Le.refl _
    | with_reducible exact Le.f _
    | with_reducible refine Le.t ?_ ?_
    | with_reducible refine Le.g ?_
    | with_reducible refine Le.s (fun _ => ?_) (fun _ => ?_)
    | with_reducible refine Le.c ?_ (fun _ => ?_)
    | with_reducible assumption
    | with_reducible apply hq156
    | with_reducible refine Le.bnd ?_
    | with_reducible intro _
theorem mL_zaq_0 (c161 : (Int)) (q162 q163 : ((HL [y1, y1] → Option (Int)))) (hq164 : ∀ h, Le (q162 h) (q163 h)) (c165 : (Int)) (c166 : (List Nat)) (c167 : List Y1) (x168 : Int) : Le (Lm_zaq_0 (c161, (q162, (c165, (c166, c167)))) x168) (L_zaq_0 (c161, (q163, (c165, (c166, c167)))) x168) := by
  unfold Lm_zaq_0 L_zaq_0
  refine Le.it (fun v => ?_) _ _
  apply mS_zaq_0
  all_goals assumption
theorem mS_zaq_2 (c169 : (Int)) (q170 q171 : ((HL [y1, y1] → Option (Int)))) (hq172 : ∀ h, Le (q170 h) (q171 h)) (c173 : (Int)) (c174 : (List Nat)) (c175 : List Y1) (x176 : Int) : Le (Sm_zaq_2 (c169, (q170, (c173, (c174, c175)))) x176).ev (S_zaq_2 (c169, (q171, (c173, (c174, c175)))) x176).ev := by
  unfold Sm_zaq_2 S_zaq_2
  try dsimp only
  repeat' first
    | with_reducible exact Le.refl _
    | with_reducible exact Le.f _
    | with_reducible refine Le.t ?_ ?_
    | with_reducible refine Le.g ?_
    | with_reducible refine Le.s (fun _ => ?_) (fun _ => ?_)
    | with_reducible refine Le.c ?_ (fun _ => ?_)
    | with_reducible assumption
    | with_reducible apply hq172
    | with_reducible refine Le.bnd ?_
    | with_reducible intro _
theorem mL_zaq_2 (c177 : (Int)) (q178 q179 : ((HL [y1, y1] → Option (Int)))) (hq180 : ∀ h, Le (q178 h) (q179 h)) (c181 : (Int)) (c182 : (List Nat)) (c183 : List Y1) (x184 : Int) : Le (Lm_zaq_2 (c177, (q178, (c181, (c182, c183)))) x184) (L_zaq_2 (c177, (q179, (c181, (c182, c183)))) x184) := by
  unfold Lm_zaq_2 L_zaq_2
  refine Le.it (fun v => ?_) _ _
  apply mS_zaq_2
  all_goals assumption
theorem mS_zaq_6 (c185 : (Int)) (q186 q187 : ((HL [y1, y1] → Option (Int)))) (hq188 : ∀ h, Le (q186 h) (q187 h)) (c189 : (Int)) (c190 : (List Nat)) (c191 : List Y1) (x192 : Int) : Le (Sm_zaq_6 (c185, (q186, (c189, (c190, c191)))) x192).ev (S_zaq_6 (c185, (q187, (c189, (c190, c191)))) x192).ev := by
  unfold Sm_zaq_6 S_zaq_6
  try dsimp only
  repeat' first
    | with_reducible exact Le.refl _
    | with_reducible exact Le.f _
    | with_reducible refine Le.t ?_ ?_
    | with_reducible refine Le.g ?_
    | with_reducible refine Le.s (fun _ => ?_) (fun _ => ?_)
    | with_reducible refine Le.c ?_ (fun _ => ?_)
    | with_reducible assumption
    | with_reducible apply hq188
    | with_reducible refine Le.bnd ?_
    | with_reducible intro _
theorem mL_zaq_6 (c193 : (Int)) (q194 q195 : ((HL [y1, y1] → Option (Int)))) (hq196 : ∀ h, Le (q194 h) (q195 h)) (c197 : (Int)) (c198 : (List Nat)) (c199 : List Y1) (x200 : Int) : Le (Lm_zaq_6 (c193, (q194, (c197, (c198, c199)))) x200) (L_zaq_6 (c193, (q195, (c197, (c198, c199)))) x200) := by
  unfold Lm_zaq_6 L_zaq_6
  refine Le.it (fun v => ?_) _ _
  apply mS_zaq_6
  all_goals assumption
theorem mS_zaq_8 (c201 : (Int)) (q202 q203 : ((HL [y1, y1] → Option (Int)))) (hq204 : ∀ h, Le (q202 h) (q203 h)) (c205 : (Int)) (c206 : (List Nat)) (c207 : List Y1) (x208 : Int) : Le (Sm_zaq_8 (c201, (q202, (c205, (c206, c207)))) x208).ev (S_zaq_8 (c201, (q203, (c205, (c206, c207)))) x208).ev := by
  unfold Sm_zaq_8 S_zaq_8
  try dsimp only
  repeat' first
    | with_reducible exact Le.refl _
    | with_reducible exact Le.f _
    | with_reducible refine Le.t ?_ ?_
    | with_reducible refine Le.g ?_
    | with_reducible refine Le.s (fun _ => ?_) (fun _ => ?_)
    | with_reducible refine Le.c ?_ (fun _ => ?_)
    | with_reducible assumption
    | with_reducible apply hq204
    | with_reducible refine Le.bnd ?_
    | with_reducible intro _
theorem mL_zaq_8 (c209 : (Int)) (q210 q211 : ((HL [y1, y1] → Option (Int)))) (hq212 : ∀ h, Le (q210 h) (q211 h)) (c213 : (Int)) (c214 : (List Nat)) (c215 : List Y1) (x216 : Int) : Le (Lm_zaq_8 (c209, (q210, (c213, (c214, c215)))) x216) (L_zaq_8 (c209, (q211, (c213, (c214, c215)))) x216) := by
  unfold Lm_zaq_8 L_zaq_8
  refine Le.it (fun v => ?_) _ _
  apply mS_zaq_8
  all_goals assumption
theorem mS_zaq_4 (c217 : (Int)) (q218 q219 : HL [y1, y1] → Option (Int)) (hq220 : ∀ h, Le (q218 h) (q219 h)) (x221 : Int × (Int × ((List Nat) × Y2))) : Le (Sm_zaq_4 (c217, q218) x221).ev (S_zaq_4 (c217, q219) x221).ev := by
  unfold Sm_zaq_4 S_zaq_4
  try dsimp only
  repeat' first
    | with_reducible exact Le.refl _
    | with_reducible exact Le.f _
    | with_reducible refine Le.t ?_ ?_
    | with_reducible refine Le.g ?_
    | with_reducible refine Le.s (fun _ => ?_) (fun _ => ?_)
    | with_reducible refine Le.c ?_ (fun _ => ?_)
    | with_reducible assumption
    | with_reducible apply hq220
    | with_reducible apply mL_zaq_6
    | with_reducible apply mL_zaq_8
    | with_reducible refine Le.bnd ?_
    | with_reducible intro _
theorem mL_zaq_4 (c222 : (Int)) (q223 q224 : HL [y1, y1] → Option (Int)) (hq225 : ∀ h, Le (q223 h) (q224 h)) (x226 : Int × (Int × ((List Nat) × Y2))) : Le (Lm_zaq_4 (c222, q223) x226) (L_zaq_4 (c222, q224) x226) := by
  unfold Lm_zaq_4 L_zaq_4
  refine Le.it (fun v => ?_) _ _
  apply mS_zaq_4
  all_goals assumption
theorem mT_zaq (x227 : Int) (x228 : Int) (x229 : Int) (q230 q231 : (HL [y1, y1] → Option (Int))) (hq232 : ∀ h, Le (q230 h) (q231 h)) (x233 : (List Nat) × Y2) : Le (Tm_zaq x227 x228 x229 q230 x233).ev (T_zaq x227 x228 x229 q231 x233).ev := by
  unfold Tm_zaq T_zaq
  try dsimp only
  repeat' first
    | with_reducible exact Le.refl _
    | with_reducible exact Le.f _
    | with_reducible refine Le.t ?_ ?_
    | with_reducible refine Le.g ?_
    | with_reducible refine Le.s (fun _ => ?_) (fun _ => ?_)
    | with_reducible refine Le.c ?_ (fun _ => ?_)
    | with_reducible assumption
    | with_reducible apply hq232
    | with_reducible apply mL_zaq_0
    | with_reducible apply mL_zaq_2
    | with_reducible apply mL_zaq_4
    | with_reducible refine Le.bnd ?_
    | with_reducible intro _
theorem mF_zaq (x234 : Int) (x235 : Int) (x236 : Int) (q237 q238 : (HL [y1, y1] → Option (Int))) (hq239 : ∀ h, Le (q237 h) (q238 h)) (x240 : (List Nat) × Y2) : Le (Fm_zaq x234 x235 x236 q237 x240) (F_zaq x234 x235 x236 q238 x240) := by
  unfold Fm_zaq F_zaq
  apply mT_zaq
  all_goals assumption
theorem mS_zar_0 (rec241 rec242 : (Int) → (Int) → (Int) → ((HL [y1, y1] → Option (Int))) → ((List Nat) × Y2) → Option ((List Nat) × Y2)) (hr243 : ∀ (x244 : (Int)) (x245 : (Int)) (x246 : (Int)) (q247 q248 : ((HL [y1, y1] → Option (Int)))) (hq249 : ∀ h, Le (q247 h) (q248 h)) (x250 : ((List Nat) × Y2)), Le (rec241 x244 x245 x246 q247 x250) (rec242 x244 x245 x246 q248 x250)) (q251 q252 : (HL [y1, y1] → Option (Int))) (hq253 : ∀ h, Le (q251 h) (q252 h)) (x254 : Int × (Int × (Int × (Bool × (Bool × ((List Nat) × Y2)))))) : Le (Sm_zar_0 rec241 q251 x254).ev (S_zar_0 rec242 q252 x254).ev := by
  unfold Sm_zar_0 S_zar_0
  try dsimp only
  repeat' first
    | with_reducible exact Le.refl _
    | with_reducible exact Le.f _
    | with_reducible refine Le.t ?_ ?_
    | with_reducible refine Le.g ?_
    | with_reducible refine Le.s (fun _ => ?_) (fun _ => ?_)
    | with_reducible refine Le.c ?_ (fun _ => ?_)
    | with_reducible assumption
    | with_reducible apply hr243
    | with_reducible apply hq253
    | with_reducible apply mF_zal
    | with_reducible apply mF_zaj
    | with_reducible apply mF_zak
    | with_reducible apply mF_zaq
    | with_reducible refine Le.bnd ?_
    | with_reducible intro _
theorem mL_zar_0 (rec255 rec256 : (Int) → (Int) → (Int) → ((HL [y1, y1] → Option (Int))) → ((List Nat) × Y2) → Option ((List Nat) × Y2)) (hr257 : ∀ (x258 : (Int)) (x259 : (Int)) (x260 : (Int)) (q261 q262 : ((HL [y1, y1] → Option (Int)))) (hq263 : ∀ h, Le (q261 h) (q262 h)) (x264 : ((List Nat) × Y2)), Le (rec255 x258 x259 x260 q261 x264) (rec256 x258 x259 x260 q262 x264)) (q265 q266 : (HL [y1, y1] → Option (Int))) (hq267 : ∀ h, Le (q265 h) (q266 h)) (x268 : Int × (Int × (Int × (Bool × (Bool × ((List Nat) × Y2)))))) : Le (Lm_zar_0 rec255 q265 x268) (L_zar_0 rec256 q266 x268) := by
  unfold Lm_zar_0 L_zar_0
  refine Le.it (fun v => ?_) _ _
  apply mS_zar_0
  all_goals assumption
theorem mT_zar (rec269 rec270 : (Int) → (Int) → (Int) → ((HL [y1, y1] → Option (Int))) → ((List Nat) × Y2) → Option ((List Nat) × Y2)) (hr271 : ∀ (x272 : (Int)) (x273 : (Int)) (x274 : (Int)) (q275 q276 : ((HL [y1, y1] → Option (Int)))) (hq277 : ∀ h, Le (q275 h) (q276 h)) (x278 : ((List Nat) × Y2)), Le (rec269 x272 x273 x274 q275 x278) (rec270 x272 x273 x274 q276 x278)) (x279 : Int) (x280 : Int) (x281 : Int) (q282 q283 : (HL [y1, y1] → Option (Int))) (hq284 : ∀ h, Le (q282 h) (q283 h)) (x285 : (List Nat) × Y2) : Le (Tm_zar rec269 x279 x280 x281 q282 x285).ev (T_zar rec270 x279 x280 x281 q283 x285).ev := by
  unfold Tm_zar T_zar
  try dsimp only
  repeat' first
    | with_reducible exact Le.refl _
    | with_reducible exact Le.f _
    | with_reducible refine Le.t ?_ ?_
    | with_reducible refine Le.g ?_
    | with_reducible refine Le.s (fun _ => ?_) (fun _ => ?_)
    | with_reducible refine Le.c ?_ (fun _ => ?_)
    | with_reducible assumption
    | with_reducible apply hr271
    | with_reducible apply hq284
    | with_reducible apply mL_zar_0
    | with_reducible refine Le.bnd ?_
    | with_reducible intro _
theorem mF_zar : ∀ (n : Nat) (x286 : (Int)) (x287 : (Int)) (x288 : (Int)) (q289 q290 : ((HL [y1, y1] → Option (Int)))) (hq291 : ∀ h, Le (q289 h) (q290 h)) (x292 : ((List Nat) × Y2)), Le (Fm_zar n x286 x287 x288 q289 x292) (F_zar n x286 x287 x288 q290 x292)
  | 0 => by intros; exact Le.none _
  | n + 1 => by
    intros
    unfold Fm_zar F_zar
    apply mT_zar
    · exact mF_zar n
    all_goals assumption
theorem mT_zai (q293 q294 : (HL [y1, y1] → Option (Int))) (hq295 : ∀ h, Le (q293 h) (q294 h)) (x296 : (List Nat) × Y2) : Le (Tm_zai q293 x296).ev (T_zai q294 x296).ev := by
  unfold Tm_zai T_zai
  try dsimp only
  repeat' first
    | with_reducible exact Le.refl _
    | with_reducible exact Le.f _
    | with_reducible refine Le.t ?_ ?_
    | with_reducible refine Le.g ?_
    | with_reducible refine Le.s (fun _ => ?_) (fun _ => ?_)
    | with_reducible refine Le.c ?_ (fun _ => ?_)
    | with_reducible assumption
    | with_reducible apply hq295
    | with_reducible apply mF_zab
    | with_reducible apply mF_zar
    | with_reducible refine Le.bnd ?_
    | with_reducible intro _
theorem mF_zai (q297 q298 : (HL [y1, y1] → Option (Int))) (hq299 : ∀ h, Le (q297 h) (q298 h)) (x300 : (List Nat) × Y2) : Le (Fm_zai q297 x300) (F_zai q298 x300) := by
  unfold Fm_zai F_zai
  apply mT_zai
  all_goals assumption
theorem mT_zc (x301 : Int) : Le (Tm_zc x301).ev (T_zc x301).ev := by
  unfold Tm_zc T_zc
  try dsimp only
  repeat' first
    | with_reducible exact Le.refl _
    | with_reducible exact Le.f _
    | with_reducible refine Le.t ?_ ?_
    | with_reducible refine Le.g ?_
    | with_reducible refine Le.s (fun _ => ?_) (fun _ => ?_)
    | with_reducible refine Le.c ?_ (fun _ => ?_)
    | with_reducible assumption
    | with_reducible refine Le.bnd ?_
    | with_reducible intro _
theorem mF_zc (x302 : Int) : Le (Fm_zc x302) (F_zc x302) := by
  unfold Fm_zc F_zc
  apply mT_zc
  all_goals assumption
theorem mT_za (x303 : Int) (x304 : Int) : Le (Tm_za x303 x304).ev (T_za x303 x304).ev := by
  unfold Tm_za T_za
  try dsimp only
  repeat' first
    | with_reducible exact Le.refl _
    | with_reducible exact Le.f _
    | with_reducible refine Le.t ?_ ?_
    | with_reducible refine Le.g ?_
    | with_reducible refine Le.s (fun _ => ?_) (fun _ => ?_)
    | with_reducible refine Le.c ?_ (fun _ => ?_)
    | with_reducible assumption
    | with_reducible apply mF_zc
    | with_reducible refine Le.bnd ?_
    | with_reducible intro _
theorem mF_za (x305 : Int) (x306 : Int) : Le (Fm_za x305 x306) (F_za x305 x306) := by
  unfold Fm_za F_za
  apply mT_za
  all_goals assumption
theorem mS_zad_0 (x307 : Y1 × (Y1 × (Y1 × Int))) (x308 : Int) : Le (Sm_zad_0 x307 x308).ev (S_zad_0 x307 x308).ev := by
  unfold Sm_zad_0 S_zad_0
  try dsimp only
  repeat' first
    | with_reducible exact Le.refl _
    | with_reducible exact Le.f _
    | with_reducible refine Le.t ?_ ?_
    | with_reducible refine Le.g ?_
    | with_reducible refine Le.s (fun _ => ?_) (fun _ => ?_)
    | with_reducible refine Le.c ?_ (fun _ => ?_)
    | with_reducible assumption
    | with_reducible apply mF_za
    | with_reducible refine Le.bnd ?_
    | with_reducible intro _
theorem mL_zad_0 (x309 : Y1 × (Y1 × (Y1 × Int))) (x310 : Int) : Le (Lm_zad_0 x309 x310) (L_zad_0 x309 x310) := by
  unfold Lm_zad_0 L_zad_0
  refine Le.it (fun v => ?_) _ _
  apply mS_zad_0
  all_goals assumption
theorem mT_zad (x311 : Y1) (x312 : Y1) : Le (Tm_zad x311 x312).ev (T_zad x311 x312).ev := by
  unfold Tm_zad T_zad
  try dsimp only
  repeat' first
    | with_reducible exact Le.refl _
    | with_reducible exact Le.f _
    | with_reducible refine Le.t ?_ ?_
    | with_reducible refine Le.g ?_
    | with_reducible refine Le.s (fun _ => ?_) (fun _ => ?_)
    | with_reducible refine Le.c ?_ (fun _ => ?_)
    | with_reducible assumption
    | with_reducible apply mL_zad_0
    | with_reducible refine Le.bnd ?_
    | with_reducible intro _
theorem mF_zad (x313 : Y1) (x314 : Y1) : Le (Fm_zad x313 x314) (F_zad x313 x314) := by
  unfold Fm_zad F_zad
  apply mT_zad
  all_goals assumption
theorem mS_zb_0 (x315 : Int × (Y1 × Int)) (x316 : Int) : Le (Sm_zb_0 x315 x316).ev (S_zb_0 x315 x316).ev := by
  unfold Sm_zb_0 S_zb_0
  try dsimp only
  repeat' first
    | with_reducible exact Le.refl _
    | with_reducible exact Le.f _
    | with_reducible refine Le.t ?_ ?_
    | with_reducible refine Le.g ?_
    | with_reducible refine Le.s (fun _ => ?_) (fun _ => ?_)
    | with_reducible refine Le.c ?_ (fun _ => ?_)
    | with_reducible assumption
    | with_reducible refine Le.bnd ?_
    | with_reducible intro _
theorem mL_zb_0 (x317 : Int × (Y1 × Int)) (x318 : Int) : Le (Lm_zb_0 x317 x318) (L_zb_0 x317 x318) := by
  unfold Lm_zb_0 L_zb_0
  refine Le.it (fun v => ?_) _ _
  apply mS_zb_0
  all_goals assumption
theorem mT_zb (x319 : Y1) : Le (Tm_zb x319).ev (T_zb x319).ev := by
  unfold Tm_zb T_zb
  try dsimp only
  repeat' first
    | with_reducible exact Le.refl _
    | with_reducible exact Le.f _
    | with_reducible refine Le.t ?_ ?_
    | with_reducible refine Le.g ?_
    | with_reducible refine Le.s (fun _ => ?_) (fun _ => ?_)
    | with_reducible refine Le.c ?_ (fun _ => ?_)
    | with_reducible assumption
    | with_reducible apply mL_zb_0
    | with_reducible refine Le.bnd ?_
    | with_reducible intro _
theorem mF_zb (x320 : Y1) : Le (Fm_zb x320) (F_zb x320) := by
  unfold Fm_zb F_zb
  apply mT_zb
  all_goals assumption
theorem mT_zl (x321 : Y1) (x322 : Y1) : Le (Tm_zl x321 x322).ev (T_zl x321 x322).ev := by
  unfold Tm_zl T_zl
  try dsimp only
  repeat' first
    | with_reducible exact Le.refl _
    | with_reducible exact Le.f _
    | with_reducible refine Le.t ?_ ?_
    | with_reducible refine Le.g ?_
    | with_reducible refine Le.s (fun _ => ?_) (fun _ => ?_)
    | with_reducible refine Le.c ?_ (fun _ => ?_)
    | with_reducible assumption
    | with_reducible apply mF_za
    | with_reducible apply mF_zad
    | with_reducible apply mF_zb
    | with_reducible refine Le.bnd ?_
    | with_reducible intro _
theorem mF_zl (x323 : Y1) (x324 : Y1) : Le (Fm_zl x323 x324) (F_zl x323 x324) := by
  unfold Fm_zl F_zl
  apply mT_zl
  all_goals assumption
theorem mS_zq_0 (x325 : Int) (x326 : Int × Y2) : Le (Sm_zq_0 x325 x326).ev (S_zq_0 x325 x326).ev := by
  unfold Sm_zq_0 S_zq_0
  try dsimp only
  repeat' first
    | with_reducible exact Le.refl _
    | with_reducible exact Le.f _
    | with_reducible refine Le.t ?_ ?_
    | with_reducible refine Le.g ?_
    | with_reducible refine Le.s (fun _ => ?_) (fun _ => ?_)
    | with_reducible refine Le.c ?_ (fun _ => ?_)
    | with_reducible assumption
    | with_reducible apply mF_zj
    | with_reducible refine Le.bnd ?_
    | with_reducible intro _
theorem mL_zq_0 (x327 : Int) (x328 : Int × Y2) : Le (Lm_zq_0 x327 x328) (L_zq_0 x327 x328) := by
  unfold Lm_zq_0 L_zq_0
  refine Le.it (fun v => ?_) _ _
  apply mS_zq_0
  all_goals assumption
theorem mT_zq (x329 : Int) : Le (Tm_zq x329).ev (T_zq x329).ev := by
  unfold Tm_zq T_zq
  try dsimp only
  repeat' first
    | with_reducible exact Le.refl _
    | with_reducible exact Le.f _
    | with_reducible refine Le.t ?_ ?_
    | with_reducible refine Le.g ?_
    | with_reducible refine Le.s (fun _ => ?_) (fun _ => ?_)
    | with_reducible refine Le.c ?_ (fun _ => ?_)
    | with_reducible assumption
    | with_reducible apply mL_zq_0
    | with_reducible apply mF_zai
    | with_reducible apply mF_zl
    | with_reducible refine Le.bnd ?_
    | with_reducible intro _
theorem mF_zq (x330 : Int) : Le (Fm_zq x330) (F_zq x330) := by
  unfold Fm_zq F_zq
  apply mT_zq
  all_goals assumption
end Go.Proofs.Ytlemejhffpkbkaa
