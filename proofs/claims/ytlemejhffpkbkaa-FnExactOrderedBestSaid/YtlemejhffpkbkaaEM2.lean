import Derived.Test.YtlemejhffpkbkaaEM1
namespace Go.Proofs.Ytlemejhffpkbkaa
theorem mS_zbx_0 (x1 : Int × Int) (x2 : Int × Y1) : Le (Sm_zbx_0 x1 x2).ev (S_zbx_0 x1 x2).ev := by
  unfold Sm_zbx_0 S_zbx_0
  try dsimp only
  repeat' first
    | with_reducible exact Le.refl _
    | with_reducible exact Le.f _
    | with_reducible refine Le.t ?_ ?_
    | with_reducible refine Le.g ?_
    | with_reducible refine Le.s (fun _ => ?_) (fun _ => ?_)
    | with_reducible refine Le.c ?_ (fun _ => ?_)
    | with_reducible assumption
    | with_reducible refine Le.bnd ?_
    | with_reducible intro _
theorem mL_zbx_0 (x3 : Int × Int) (x4 : Int × Y1) : Le (Lm_zbx_0 x3 x4) (L_zbx_0 x3 x4) := by
  unfold Lm_zbx_0 L_zbx_0
  refine Le.it (fun v => ?_) _ _
  apply mS_zbx_0
  all_goals assumption
theorem mT_zbx (x5 : Int) (x6 : Int) : Le (Tm_zbx x5 x6).ev (T_zbx x5 x6).ev := by
  unfold Tm_zbx T_zbx
  try dsimp only
  repeat' first
    | with_reducible exact Le.refl _
    | with_reducible exact Le.f _
    | with_reducible refine Le.t ?_ ?_
    | with_reducible refine Le.g ?_
    | with_reducible refine Le.s (fun _ => ?_) (fun _ => ?_)
    | with_reducible refine Le.c ?_ (fun _ => ?_)
    | with_reducible assumption
    | with_reducible apply mL_zbx_0
    | with_reducible refine Le.bnd ?_
    | with_reducible intro _
theorem mF_zbx (x7 : Int) (x8 : Int) : Le (Fm_zbx x7 x8) (F_zbx x7 x8) := by
  unfold Fm_zbx F_zbx
  apply mT_zbx
  all_goals assumption
theorem mS_zbw_0 (x9 : Y1 × Y1) (x10 : Int) : Le (Sm_zbw_0 x9 x10).ev (S_zbw_0 x9 x10).ev := by
  unfold Sm_zbw_0 S_zbw_0
  try dsimp only
  repeat' first
    | with_reducible exact Le.refl _
    | with_reducible exact Le.f _
    | with_reducible refine Le.t ?_ ?_
    | with_reducible refine Le.g ?_
    | with_reducible refine Le.s (fun _ => ?_) (fun _ => ?_)
    | with_reducible refine Le.c ?_ (fun _ => ?_)
    | with_reducible assumption
    | with_reducible refine Le.bnd ?_
    | with_reducible intro _
theorem mL_zbw_0 (x11 : Y1 × Y1) (x12 : Int) : Le (Lm_zbw_0 x11 x12) (L_zbw_0 x11 x12) := by
  unfold Lm_zbw_0 L_zbw_0
  refine Le.it (fun v => ?_) _ _
  apply mS_zbw_0
  all_goals assumption
theorem mT_zbw (x13 : Y1) (x14 : Y1) : Le (Tm_zbw x13 x14).ev (T_zbw x13 x14).ev := by
  unfold Tm_zbw T_zbw
  try dsimp only
  repeat' first
    | with_reducible exact Le.refl _
    | with_reducible exact Le.f _
    | with_reducible refine Le.t ?_ ?_
    | with_reducible refine Le.g ?_
    | with_reducible refine Le.s (fun _ => ?_) (fun _ => ?_)
    | with_reducible refine Le.c ?_ (fun _ => ?_)
    | with_reducible assumption
    | with_reducible apply mL_zbw_0
    | with_reducible refine Le.bnd ?_
    | with_reducible intro _
theorem mF_zbw (x15 : Y1) (x16 : Y1) : Le (Fm_zbw x15 x16) (F_zbw x15 x16) := by
  unfold Fm_zbw F_zbw
  apply mT_zbw
  all_goals assumption
theorem mS_zcb_2 (x17 : Int × (Y2 × (Int × Y1))) (x18 : Int) : Le (Sm_zcb_2 x17 x18).ev (S_zcb_2 x17 x18).ev := by
  unfold Sm_zcb_2 S_zcb_2
  try dsimp only
  repeat' first
    | with_reducible exact Le.refl _
    | with_reducible exact Le.f _
    | with_reducible refine Le.t ?_ ?_
    | with_reducible refine Le.g ?_
    | with_reducible refine Le.s (fun _ => ?_) (fun _ => ?_)
    | with_reducible refine Le.c ?_ (fun _ => ?_)
    | with_reducible assumption
    | with_reducible apply mF_zbw
    | with_reducible refine Le.bnd ?_
    | with_reducible intro _
theorem mL_zcb_2 (x19 : Int × (Y2 × (Int × Y1))) (x20 : Int) : Le (Lm_zcb_2 x19 x20) (L_zcb_2 x19 x20) := by
  unfold Lm_zcb_2 L_zcb_2
  refine Le.it (fun v => ?_) _ _
  apply mS_zcb_2
  all_goals assumption
theorem mS_zcb_0 (x21 : Int) (x22 : Y2 × Int) : Le (Sm_zcb_0 x21 x22).ev (S_zcb_0 x21 x22).ev := by
  unfold Sm_zcb_0 S_zcb_0
  try dsimp only
  repeat' first
    | with_reducible exact Le.refl _
    | with_reducible exact Le.f _
    | with_reducible refine Le.t ?_ ?_
    | with_reducible refine Le.g ?_
    | with_reducible refine Le.s (fun _ => ?_) (fun _ => ?_)
    | with_reducible refine Le.c ?_ (fun _ => ?_)
    | with_reducible assumption
    | with_reducible apply mF_zbx
    | with_reducible apply mL_zcb_2
    | with_reducible refine Le.bnd ?_
    | with_reducible intro _
theorem mL_zcb_0 (x23 : Int) (x24 : Y2 × Int) : Le (Lm_zcb_0 x23 x24) (L_zcb_0 x23 x24) := by
  unfold Lm_zcb_0 L_zcb_0
  refine Le.it (fun v => ?_) _ _
  apply mS_zcb_0
  all_goals assumption
theorem mT_zcb (x25 : Int) : Le (Tm_zcb x25).ev (T_zcb x25).ev := by
  unfold Tm_zcb T_zcb
  try dsimp only
  repeat' first
    | with_reducible exact Le.refl _
    | with_reducible exact Le.f _
    | with_reducible refine Le.t ?_ ?_
    | with_reducible refine Le.g ?_
    | with_reducible refine Le.s (fun _ => ?_) (fun _ => ?_)
    | with_reducible refine Le.c ?_ (fun _ => ?_)
    | with_reducible assumption
    | with_reducible apply mL_zcb_0
    | with_reducible refine Le.bnd ?_
    | with_reducible intro _
theorem mF_zcb (x26 : Int) : Le (Fm_zcb x26) (F_zcb x26) := by
  unfold Fm_zcb F_zcb
  apply mT_zcb
  all_goals assumption
theorem mT_zp (x27 : Int) (x28 : Int) : Le (Tm_zp x27 x28).ev (T_zp x27 x28).ev := by
  unfold Tm_zp T_zp
  try dsimp only
  repeat' first
    | with_reducible exact Le.refl _
    | with_reducible exact Le.f _
    | with_reducible refine Le.t ?_ ?_
    | with_reducible refine Le.g ?_
    | with_reducible refine Le.s (fun _ => ?_) (fun _ => ?_)
    | with_reducible refine Le.c ?_ (fun _ => ?_)
    | with_reducible assumption
    | with_reducible refine Le.bnd ?_
    | with_reducible intro _
theorem mF_zp (x29 : Int) (x30 : Int) : Le (Fm_zp x29 x30) (F_zp x29 x30) := by
  unfold Fm_zp F_zp
  apply mT_zp
  all_goals assumption
theorem mS_zq_0 (x31 : Int) (x32 : Int × Y1) : Le (Sm_zq_0 x31 x32).ev (S_zq_0 x31 x32).ev := by
  unfold Sm_zq_0 S_zq_0
  try dsimp only
  repeat' first
    | with_reducible exact Le.refl _
    | with_reducible exact Le.f _
    | with_reducible refine Le.t ?_ ?_
    | with_reducible refine Le.g ?_
    | with_reducible refine Le.s (fun _ => ?_) (fun _ => ?_)
    | with_reducible refine Le.c ?_ (fun _ => ?_)
    | with_reducible assumption
    | with_reducible apply mF_zp
    | with_reducible refine Le.bnd ?_
    | with_reducible intro _
theorem mL_zq_0 (x33 : Int) (x34 : Int × Y1) : Le (Lm_zq_0 x33 x34) (L_zq_0 x33 x34) := by
  unfold Lm_zq_0 L_zq_0
  refine Le.it (fun v => ?_) _ _
  apply mS_zq_0
  all_goals assumption
theorem mT_zq (x35 : Int) : Le (Tm_zq x35).ev (T_zq x35).ev := by
  unfold Tm_zq T_zq
  try dsimp only
  repeat' first
    | with_reducible exact Le.refl _
    | with_reducible exact Le.f _
    | with_reducible refine Le.t ?_ ?_
    | with_reducible refine Le.g ?_
    | with_reducible refine Le.s (fun _ => ?_) (fun _ => ?_)
    | with_reducible refine Le.c ?_ (fun _ => ?_)
    | with_reducible assumption
    | with_reducible apply mL_zq_0
    | with_reducible refine Le.bnd ?_
    | with_reducible intro _
theorem mF_zq (x36 : Int) : Le (Fm_zq x36) (F_zq x36) := by
  unfold Fm_zq F_zq
  apply mT_zq
  all_goals assumption
theorem mT_zan (x37 : Int) : Le (Tm_zan x37).ev (T_zan x37).ev := by
  unfold Tm_zan T_zan
  try dsimp only
  repeat' first
    | with_reducible exact Le.refl _
    | with_reducible exact Le.f _
    | with_reducible refine Le.t ?_ ?_
    | with_reducible refine Le.g ?_
    | with_reducible refine Le.s (fun _ => ?_) (fun _ => ?_)
    | with_reducible refine Le.c ?_ (fun _ => ?_)
    | with_reducible assumption
    | with_reducible refine Le.bnd ?_
    | with_reducible intro _
theorem mF_zan (x38 : Int) : Le (Fm_zan x38) (F_zan x38) := by
  unfold Fm_zan F_zan
  apply mT_zan
  all_goals assumption
theorem mT_zam (x39 : Int) : Le (Tm_zam x39).ev (T_zam x39).ev := by
  unfold Tm_zam T_zam
  try dsimp only
  repeat' first
    | with_reducible exact Le.refl _
    | with_reducible exact Le.f _
    | with_reducible refine Le.t ?_ ?_
    | with_reducible refine Le.g ?_
    | with_reducible refine Le.s (fun _ => ?_) (fun _ => ?_)
    | with_reducible refine Le.c ?_ (fun _ => ?_)
    | with_reducible assumption
    | with_reducible apply mF_zan
    | with_reducible refine Le.bnd ?_
    | with_reducible intro _
theorem mF_zam (x40 : Int) : Le (Fm_zam x40) (F_zam x40) := by
  unfold Fm_zam F_zam
  apply mT_zam
  all_goals assumption
theorem mS_zbb_2 (c41 : (Int)) (c42 : (Int)) (q43 q44 : ((HL [y1, y1] → Option (Int)))) (hq45 : ∀ h, Le (q43 h) (q44 h)) (c46 : Int) (x47 : Int × ((List Nat) × Y2)) : Le (Sm_zbb_2 (c41, (c42, (q43, c46))) x47).ev (S_zbb_2 (c41, (c42, (q44, c46))) x47).ev := by
  unfold Sm_zbb_2 S_zbb_2
  try dsimp only
  repeat' first
    | with_reducible exact Le.refl _
    | with_reducible exact Le.f _
    | with_reducible refine Le.t ?_ ?_
    | with_reducible refine Le.g ?_
    | with_reducible refine Le.s (fun _ => ?_) (fun _ => ?_)
    | with_reducible refine Le.c ?_ (fun _ => ?_)
    | with_reducible assumption
    | with_reducible apply hq45
    | with_reducible refine Le.bnd ?_
    | with_reducible intro _
theorem mL_zbb_2 (c48 : (Int)) (c49 : (Int)) (q50 q51 : ((HL [y1, y1] → Option (Int)))) (hq52 : ∀ h, Le (q50 h) (q51 h)) (c53 : Int) (x54 : Int × ((List Nat) × Y2)) : Le (Lm_zbb_2 (c48, (c49, (q50, c53))) x54) (L_zbb_2 (c48, (c49, (q51, c53))) x54) := by
  unfold Lm_zbb_2 L_zbb_2
  refine Le.it (fun v => ?_) _ _
  apply mS_zbb_2
  all_goals assumption
theorem mS_zbb_0 (c55 : (Int)) (c56 : (Int)) (q57 q58 : HL [y1, y1] → Option (Int)) (hq59 : ∀ h, Le (q57 h) (q58 h)) (x60 : Int × ((List Nat) × Y2)) : Le (Sm_zbb_0 (c55, (c56, q57)) x60).ev (S_zbb_0 (c55, (c56, q58)) x60).ev := by
  unfold Sm_zbb_0 S_zbb_0
  try dsimp only
  repeat' first
    | with_reducible exact Le.refl _
    | with_reducible exact Le.f _
    | with_reducible refine Le.t ?_ ?_
    | with_reducible refine Le.g ?_
    | with_reducible refine Le.s (fun _ => ?_) (fun _ => ?_)
    | with_reducible refine Le.c ?_ (fun _ => ?_)
    | with_reducible assumption
    | with_reducible apply hq59
    | with_reducible apply mL_zbb_2
    | with_reducible refine Le.bnd ?_
    | with_reducible intro _
theorem mL_zbb_0 (c61 : (Int)) (c62 : (Int)) (q63 q64 : HL [y1, y1] → Option (Int)) (hq65 : ∀ h, Le (q63 h) (q64 h)) (x66 : Int × ((List Nat) × Y2)) : Le (Lm_zbb_0 (c61, (c62, q63)) x66) (L_zbb_0 (c61, (c62, q64)) x66) := by
  unfold Lm_zbb_0 L_zbb_0
  refine Le.it (fun v => ?_) _ _
  apply mS_zbb_0
  all_goals assumption
theorem mT_zbb (x67 : Int) (x68 : Int) (q69 q70 : (HL [y1, y1] → Option (Int))) (hq71 : ∀ h, Le (q69 h) (q70 h)) (x72 : (List Nat) × Y2) : Le (Tm_zbb x67 x68 q69 x72).ev (T_zbb x67 x68 q70 x72).ev := by
  unfold Tm_zbb T_zbb
  try dsimp only
  repeat' first
    | with_reducible exact Le.refl _
    | with_reducible exact Le.f _
    | with_reducible refine Le.t ?_ ?_
    | with_reducible refine Le.g ?_
    | with_reducible refine Le.s (fun _ => ?_) (fun _ => ?_)
    | with_reducible refine Le.c ?_ (fun _ => ?_)
    | with_reducible assumption
    | with_reducible apply hq71
    | with_reducible apply mL_zbb_0
    | with_reducible refine Le.bnd ?_
    | with_reducible intro _
theorem mF_zbb (x73 : Int) (x74 : Int) (q75 q76 : (HL [y1, y1] → Option (Int))) (hq77 : ∀ h, Le (q75 h) (q76 h)) (x78 : (List Nat) × Y2) : Le (Fm_zbb x73 x74 q75 x78) (F_zbb x73 x74 q76 x78) := by
  unfold Fm_zbb F_zbb
  apply mT_zbb
  all_goals assumption
theorem mT_zbh (x79 : Int) : Le (Tm_zbh x79).ev (T_zbh x79).ev := by
  unfold Tm_zbh T_zbh
  try dsimp only
  repeat' first
    | with_reducible exact Le.refl _
    | with_reducible exact Le.f _
    | with_reducible refine Le.t ?_ ?_
    | with_reducible refine Le.g ?_
    | with_reducible refine Le.s (fun _ => ?_) (fun _ => ?_)
    | with_reducible refine Le.c ?_ (fun _ => ?_)
    | with_reducible assumption
    | with_reducible apply mF_zam
    | with_reducible refine Le.bnd ?_
    | with_reducible intro _
theorem mF_zbh (x80 : Int) : Le (Fm_zbh x80) (F_zbh x80) := by
  unfold Fm_zbh F_zbh
  apply mT_zbh
  all_goals assumption
theorem mT_zbs (x81 : Int) : Le (Tm_zbs x81).ev (T_zbs x81).ev := by
  unfold Tm_zbs T_zbs
  try dsimp only
  repeat' first
    | with_reducible exact Le.refl _
    | with_reducible exact Le.f _
    | with_reducible refine Le.t ?_ ?_
    | with_reducible refine Le.g ?_
    | with_reducible refine Le.s (fun _ => ?_) (fun _ => ?_)
    | with_reducible refine Le.c ?_ (fun _ => ?_)
    | with_reducible assumption
    | with_reducible refine Le.bnd ?_
    | with_reducible intro _
theorem mF_zbs (x82 : Int) : Le (Fm_zbs x82) (F_zbs x82) := by
  unfold Fm_zbs F_zbs
  apply mT_zbs
  all_goals assumption
theorem mS_zaw_0 (x83 : Int × (Int × Int)) (x84 : Int × (((List Nat) × Y2) × Int)) : Le (Sm_zaw_0 x83 x84).ev (S_zaw_0 x83 x84).ev := by
  unfold Sm_zaw_0 S_zaw_0
  try dsimp only
  repeat' first
    | with_reducible exact Le.refl _
    | with_reducible exact Le.f _
    | with_reducible refine Le.t ?_ ?_
    | with_reducible refine Le.g ?_
    | with_reducible refine Le.s (fun _ => ?_) (fun _ => ?_)
    | with_reducible refine Le.c ?_ (fun _ => ?_)
    | with_reducible assumption
    | with_reducible apply mF_zbs
    | with_reducible refine Le.bnd ?_
    | with_reducible intro _
theorem mL_zaw_0 (x85 : Int × (Int × Int)) (x86 : Int × (((List Nat) × Y2) × Int)) : Le (Lm_zaw_0 x85 x86) (L_zaw_0 x85 x86) := by
  unfold Lm_zaw_0 L_zaw_0
  refine Le.it (fun v => ?_) _ _
  apply mS_zaw_0
  all_goals assumption
theorem mT_zaw (x87 : Int) (x88 : Int) (q89 q90 : (HL [y1, y1] → Option (Int))) (hq91 : ∀ h, Le (q89 h) (q90 h)) (x92 : (List Nat) × Y2) : Le (Tm_zaw x87 x88 q89 x92).ev (T_zaw x87 x88 q90 x92).ev := by
  unfold Tm_zaw T_zaw
  try dsimp only
  repeat' first
    | with_reducible exact Le.refl _
    | with_reducible exact Le.f _
    | with_reducible refine Le.t ?_ ?_
    | with_reducible refine Le.g ?_
    | with_reducible refine Le.s (fun _ => ?_) (fun _ => ?_)
    | with_reducible refine Le.c ?_ (fun _ => ?_)
    | with_reducible assumption
    | with_reducible apply hq91
    | with_reducible apply mF_zbh
    | with_reducible apply mL_zaw_0
    | with_reducible refine Le.bnd ?_
    | with_reducible intro _
theorem mF_zaw (x93 : Int) (x94 : Int) (q95 q96 : (HL [y1, y1] → Option (Int))) (hq97 : ∀ h, Le (q95 h) (q96 h)) (x98 : (List Nat) × Y2) : Le (Fm_zaw x93 x94 q95 x98) (F_zaw x93 x94 q96 x98) := by
  unfold Fm_zaw F_zaw
  apply mT_zaw
  all_goals assumption
theorem mT_zbi (x99 : List Y1) (x100 : Int) (x101 : Int) (q102 q103 : (HL [y1, y1] → Option (Int))) (hq104 : ∀ h, Le (q102 h) (q103 h)) (x105 : Int) : Le (Tm_zbi x99 x100 x101 q102 x105).ev (T_zbi x99 x100 x101 q103 x105).ev := by
  unfold Tm_zbi T_zbi
  try dsimp only
  repeat' first
    | with_reducible exact Le.refl _
    | with_reducible exact Le.f _
    | with_reducible refine Le.t ?_ ?_
    | with_reducible refine Le.g ?_
    | with_reducible refine Le.s (fun _ => ?_) (fun _ => ?_)
    | with_reducible refine Le.c ?_ (fun _ => ?_)
    | with_reducible assumption
    | with_reducible apply hq104
    | with_reducible refine Le.bnd ?_
    | with_reducible intro _
theorem mF_zbi (x106 : List Y1) (x107 : Int) (x108 : Int) (q109 q110 : (HL [y1, y1] → Option (Int))) (hq111 : ∀ h, Le (q109 h) (q110 h)) (x112 : Int) : Le (Fm_zbi x106 x107 x108 q109 x112) (F_zbi x106 x107 x108 q110 x112) := by
  unfold Fm_zbi F_zbi
  apply mT_zbi
  all_goals assumption
theorem mT_zbf (x113 : List Y1) (x114 : Int) (x115 : Int) (x116 : Int) (q117 q118 : (HL [y1, y1] → Option (Int))) (hq119 : ∀ h, Le (q117 h) (q118 h)) (x120 : Int) : Le (Tm_zbf x113 x114 x115 x116 q117 x120).ev (T_zbf x113 x114 x115 x116 q118 x120).ev := by
  unfold Tm_zbf T_zbf
  try dsimp only
  repeat' first
    | with_reducible exact Le.refl _
    | with_reducible exact Le.f _
    | with_reducible refine Le.t ?_ ?_
    | with_reducible refine Le.g ?_
    | with_reducible refine Le.s (fun _ => ?_) (fun _ => ?_)
    | with_reducible refine Le.c ?_ (fun _ => ?_)
    | with_reducible assumption
    | with_reducible apply hq119
    | with_reducible apply mF_zbi
    | with_reducible refine Le.bnd ?_
    | with_reducible intro _
theorem mF_zbf (x121 : List Y1) (x122 : Int) (x123 : Int) (x124 : Int) (q125 q126 : (HL [y1, y1] → Option (Int))) (hq127 : ∀ h, Le (q125 h) (q126 h)) (x128 : Int) : Le (Fm_zbf x121 x122 x123 x124 q125 x128) (F_zbf x121 x122 x123 x124 q126 x128) := by
  unfold Fm_zbf F_zbf
  apply mT_zbf
  all_goals assumption
theorem mT_zbd (x129 : List Y1) (x130 : Int) (q131 q132 : (HL [y1, y1] → Option (Int))) (hq133 : ∀ h, Le (q131 h) (q132 h)) (x134 : Int) : Le (Tm_zbd x129 x130 q131 x134).ev (T_zbd x129 x130 q132 x134).ev := by
  unfold Tm_zbd T_zbd
  try dsimp only
  repeat' first
    | with_reducible exact Le.refl _
    | with_reducible exact Le.f _
    | with_reducible refine Le.t ?_ ?_
    | with_reducible refine Le.g ?_
    | with_reducible refine Le.s (fun _ => ?_) (fun _ => ?_)
    | with_reducible refine Le.c ?_ (fun _ => ?_)
    | with_reducible assumption
    | with_reducible apply hq133
    | with_reducible apply mF_zbf
    | with_reducible refine Le.bnd ?_
    | with_reducible intro _
theorem mF_zbd (x135 : List Y1) (x136 : Int) (q137 q138 : (HL [y1, y1] → Option (Int))) (hq139 : ∀ h, Le (q137 h) (q138 h)) (x140 : Int) : Le (Fm_zbd x135 x136 q137 x140) (F_zbd x135 x136 q138 x140) := by
  unfold Fm_zbd F_zbd
  apply mT_zbd
  all_goals assumption
theorem mT_zay (x141 : List Y1) (x142 : Int) (x143 : Int) (q144 q145 : (HL [y1, y1] → Option (Int))) (hq146 : ∀ h, Le (q144 h) (q145 h)) : Le (Tm_zay x141 x142 x143 q144).ev (T_zay x141 x142 x143 q145).ev := by
  unfold Tm_zay T_zay
  try dsimp only
  repeat' first
    | with_reducible exact Le.refl _
    | with_reducible exact Le.f _
    | with_reducible refine Le.t ?_ ?_
    | with_reducible refine Le.g ?_
    | with_reducible refine Le.s (fun _ => ?_) (fun _ => ?_)
    | with_reducible refine Le.c ?_ (fun _ => ?_)
    | with_reducible assumption
    | with_reducible apply hq146
    | with_reducible apply mF_zbd
    | with_reducible apply mF_zbf
    | with_reducible refine Le.bnd ?_
    | with_reducible intro _
theorem mF_zay (x147 : List Y1) (x148 : Int) (x149 : Int) (q150 q151 : (HL [y1, y1] → Option (Int))) (hq152 : ∀ h, Le (q150 h) (q151 h)) : Le (Fm_zay x147 x148 x149 q150) (F_zay x147 x148 x149 q151) := by
  unfold Fm_zay F_zay
  apply mT_zay
  all_goals assumption
theorem mS_zbl_0 (c153 : (Int)) (q154 q155 : ((HL [y1, y1] → Option (Int)))) (hq156 : ∀ h, Le (q154 h) (q155 h)) (c157 : (Int)) (c158 : (List Nat)) (c159 : List Y1) (x160 : Int) : Le (Sm_zbl_0 (c153, (q154, (c157, (c158, c159)))) x160).ev (S_zbl_0 (c153, (q155, (c157, (c158, c159)))) x160).ev := by
  unfold Sm_zbl_0 S_zbl_0
  try dsimp only
  repeat' first
    | with_reducible exact Le.refl _
    | with_reducible exact Le.f _
    | with_reducible refine Le.t ?_ ?_
    | with_reducible refine Le.g ?_
    | with_reducible refine Le.s (fun _ => ?_) (fun _ => ?_)
    | with_reducible refine Le.c ?_ (fun _ => ?_)
    | with_reducible assumption
    | with_reducible apply hq156
    | with_reducible refine Le.bnd ?_
    | with_reducible intro _
theorem mL_zbl_0 (c161 : (Int)) (q162 q163 : ((HL [y1, y1] → Option (Int)))) (hq164 : ∀ h, Le (q162 h) (q163 h)) (c165 : (Int)) (c166 : (List Nat)) (c167 : List Y1) (x168 : Int) : Le (Lm_zbl_0 (c161, (q162, (c165, (c166, c167)))) x168) (L_zbl_0 (c161, (q163, (c165, (c166, c167)))) x168) := by
  unfold Lm_zbl_0 L_zbl_0
  refine Le.it (fun v => ?_) _ _
  apply mS_zbl_0
  all_goals assumption
theorem mS_zbl_2 (c169 : (Int)) (q170 q171 : ((HL [y1, y1] → Option (Int)))) (hq172 : ∀ h, Le (q170 h) (q171 h)) (c173 : (Int)) (c174 : (List Nat)) (c175 : List Y1) (x176 : Int) : Le (Sm_zbl_2 (c169, (q170, (c173, (c174, c175)))) x176).ev (S_zbl_2 (c169, (q171, (c173, (c174, c175)))) x176).ev := by
  unfold Sm_zbl_2 S_zbl_2
  try dsimp only
  repeat' first
    | with_reducible exact Le.refl _
    | with_reducible exact Le.f _
    | with_reducible refine Le.t ?_ ?_
    | with_reducible refine Le.g ?_
    | with_reducible refine Le.s (fun _ => ?_) (fun _ => ?_)
    | with_reducible refine Le.c ?_ (fun _ => ?_)
    | with_reducible assumption
    | with_reducible apply hq172
    | with_reducible refine Le.bnd ?_
    | with_reducible intro _
theorem mL_zbl_2 (c177 : (Int)) (q178 q179 : ((HL [y1, y1] → Option (Int)))) (hq180 : ∀ h, Le (q178 h) (q179 h)) (c181 : (Int)) (c182 : (List Nat)) (c183 : List Y1) (x184 : Int) : Le (Lm_zbl_2 (c177, (q178, (c181, (c182, c183)))) x184) (L_zbl_2 (c177, (q179, (c181, (c182, c183)))) x184) := by
  unfold Lm_zbl_2 L_zbl_2
  refine Le.it (fun v => ?_) _ _
  apply mS_zbl_2
  all_goals assumption
theorem mS_zbl_6 (c185 : (Int)) (q186 q187 : ((HL [y1, y1] → Option (Int)))) (hq188 : ∀ h, Le (q186 h) (q187 h)) (c189 : (Int)) (c190 : (List Nat)) (c191 : List Y1) (x192 : Int) : Le (Sm_zbl_6 (c185, (q186, (c189, (c190, c191)))) x192).ev (S_zbl_6 (c185, (q187, (c189, (c190, c191)))) x192).ev := by
  unfold Sm_zbl_6 S_zbl_6
  try dsimp only
  repeat' first
    | with_reducible exact Le.refl _
    | with_reducible exact Le.f _
    | with_reducible refine Le.t ?_ ?_
    | with_reducible refine Le.g ?_
    | with_reducible refine Le.s (fun _ => ?_) (fun _ => ?_)
    | with_reducible refine Le.c ?_ (fun _ => ?_)
    | with_reducible assumption
    | with_reducible apply hq188
    | with_reducible refine Le.bnd ?_
    | with_reducible intro _
theorem mL_zbl_6 (c193 : (Int)) (q194 q195 : ((HL [y1, y1] → Option (Int)))) (hq196 : ∀ h, Le (q194 h) (q195 h)) (c197 : (Int)) (c198 : (List Nat)) (c199 : List Y1) (x200 : Int) : Le (Lm_zbl_6 (c193, (q194, (c197, (c198, c199)))) x200) (L_zbl_6 (c193, (q195, (c197, (c198, c199)))) x200) := by
  unfold Lm_zbl_6 L_zbl_6
  refine Le.it (fun v => ?_) _ _
  apply mS_zbl_6
  all_goals assumption
theorem mS_zbl_8 (c201 : (Int)) (q202 q203 : ((HL [y1, y1] → Option (Int)))) (hq204 : ∀ h, Le (q202 h) (q203 h)) (c205 : (Int)) (c206 : (List Nat)) (c207 : List Y1) (x208 : Int) : Le (Sm_zbl_8 (c201, (q202, (c205, (c206, c207)))) x208).ev (S_zbl_8 (c201, (q203, (c205, (c206, c207)))) x208).ev := by
  unfold Sm_zbl_8 S_zbl_8
  try dsimp only
  repeat' first
    | with_reducible exact Le.refl _
    | with_reducible exact Le.f _
    | with_reducible refine Le.t ?_ ?_
    | with_reducible refine Le.g ?_
    | with_reducible refine Le.s (fun _ => ?_) (fun _ => ?_)
    | with_reducible refine Le.c ?_ (fun _ => ?_)
    | with_reducible assumption
    | with_reducible apply hq204
    | with_reducible refine Le.bnd ?_
    | with_reducible intro _
theorem mL_zbl_8 (c209 : (Int)) (q210 q211 : ((HL [y1, y1] → Option (Int)))) (hq212 : ∀ h, Le (q210 h) (q211 h)) (c213 : (Int)) (c214 : (List Nat)) (c215 : List Y1) (x216 : Int) : Le (Lm_zbl_8 (c209, (q210, (c213, (c214, c215)))) x216) (L_zbl_8 (c209, (q211, (c213, (c214, c215)))) x216) := by
  unfold Lm_zbl_8 L_zbl_8
  refine Le.it (fun v => ?_) _ _
  apply mS_zbl_8
  all_goals assumption
theorem mS_zbl_4 (c217 : (Int)) (q218 q219 : HL [y1, y1] → Option (Int)) (hq220 : ∀ h, Le (q218 h) (q219 h)) (x221 : Int × (Int × ((List Nat) × Y2))) : Le (Sm_zbl_4 (c217, q218) x221).ev (S_zbl_4 (c217, q219) x221).ev := by
  unfold Sm_zbl_4 S_zbl_4
  try dsimp only
  repeat' first
    | with_reducible exact Le.refl _
    | with_reducible exact Le.f _
    | with_reducible refine Le.t ?_ ?_
    | with_reducible refine Le.g ?_
    | with_reducible refine Le.s (fun _ => ?_) (fun _ => ?_)
    | with_reducible refine Le.c ?_ (fun _ => ?_)
    | with_reducible assumption
    | with_reducible apply hq220
    | with_reducible apply mL_zbl_6
    | with_reducible apply mL_zbl_8
    | with_reducible refine Le.bnd ?_
    | with_reducible intro _
theorem mL_zbl_4 (c222 : (Int)) (q223 q224 : HL [y1, y1] → Option (Int)) (hq225 : ∀ h, Le (q223 h) (q224 h)) (x226 : Int × (Int × ((List Nat) × Y2))) : Le (Lm_zbl_4 (c222, q223) x226) (L_zbl_4 (c222, q224) x226) := by
  unfold Lm_zbl_4 L_zbl_4
  refine Le.it (fun v => ?_) _ _
  apply mS_zbl_4
  all_goals assumption
theorem mT_zbl (x227 : Int) (x228 : Int) (x229 : Int) (q230 q231 : (HL [y1, y1] → Option (Int))) (hq232 : ∀ h, Le (q230 h) (q231 h)) (x233 : (List Nat) × Y2) : Le (Tm_zbl x227 x228 x229 q230 x233).ev (T_zbl x227 x228 x229 q231 x233).ev := by
  unfold Tm_zbl T_zbl
  try dsimp only
  repeat' first
    | with_reducible exact Le.refl _
    | with_reducible exact Le.f _
    | with_reducible refine Le.t ?_ ?_
    | with_reducible refine Le.g ?_
    | with_reducible refine Le.s (fun _ => ?_) (fun _ => ?_)
    | with_reducible refine Le.c ?_ (fun _ => ?_)
    | with_reducible assumption
    | with_reducible apply hq232
    | with_reducible apply mL_zbl_0
    | with_reducible apply mL_zbl_2
    | with_reducible apply mL_zbl_4
    | with_reducible refine Le.bnd ?_
    | with_reducible intro _
theorem mF_zbl (x234 : Int) (x235 : Int) (x236 : Int) (q237 q238 : (HL [y1, y1] → Option (Int))) (hq239 : ∀ h, Le (q237 h) (q238 h)) (x240 : (List Nat) × Y2) : Le (Fm_zbl x234 x235 x236 q237 x240) (F_zbl x234 x235 x236 q238 x240) := by
  unfold Fm_zbl F_zbl
  apply mT_zbl
  all_goals assumption
theorem mS_zbo_0 (rec241 rec242 : (Int) → (Int) → (Int) → ((HL [y1, y1] → Option (Int))) → ((List Nat) × Y2) → Option ((List Nat) × Y2)) (hr243 : ∀ (x244 : (Int)) (x245 : (Int)) (x246 : (Int)) (q247 q248 : ((HL [y1, y1] → Option (Int)))) (hq249 : ∀ h, Le (q247 h) (q248 h)) (x250 : ((List Nat) × Y2)), Le (rec241 x244 x245 x246 q247 x250) (rec242 x244 x245 x246 q248 x250)) (q251 q252 : (HL [y1, y1] → Option (Int))) (hq253 : ∀ h, Le (q251 h) (q252 h)) (x254 : Int × (Int × (Int × (Bool × (Bool × ((List Nat) × Y2)))))) : Le (Sm_zbo_0 rec241 q251 x254).ev (S_zbo_0 rec242 q252 x254).ev := by
  unfold Sm_zbo_0 S_zbo_0
  try dsimp only
  repeat' first
    | with_reducible exact Le.refl _
    | with_reducible exact Le.f _
    | with_reducible refine Le.t ?_ ?_
    | with_reducible refine Le.g ?_
    | with_reducible refine Le.s (fun _ => ?_) (fun _ => ?_)
    | with_reducible refine Le.c ?_ (fun _ => ?_)
    | with_reducible assumption
    | with_reducible apply hr243
    | with_reducible apply hq253
    | with_reducible apply mF_zbb
    | with_reducible apply mF_zaw
    | with_reducible apply mF_zay
    | with_reducible apply mF_zbl
    | with_reducible refine Le.bnd ?_
    | with_reducible intro _
theorem mL_zbo_0 (rec255 rec256 : (Int) → (Int) → (Int) → ((HL [y1, y1] → Option (Int))) → ((List Nat) × Y2) → Option ((List Nat) × Y2)) (hr257 : ∀ (x258 : (Int)) (x259 : (Int)) (x260 : (Int)) (q261 q262 : ((HL [y1, y1] → Option (Int)))) (hq263 : ∀ h, Le (q261 h) (q262 h)) (x264 : ((List Nat) × Y2)), Le (rec255 x258 x259 x260 q261 x264) (rec256 x258 x259 x260 q262 x264)) (q265 q266 : (HL [y1, y1] → Option (Int))) (hq267 : ∀ h, Le (q265 h) (q266 h)) (x268 : Int × (Int × (Int × (Bool × (Bool × ((List Nat) × Y2)))))) : Le (Lm_zbo_0 rec255 q265 x268) (L_zbo_0 rec256 q266 x268) := by
  unfold Lm_zbo_0 L_zbo_0
  refine Le.it (fun v => ?_) _ _
  apply mS_zbo_0
  all_goals assumption
theorem mT_zbo (rec269 rec270 : (Int) → (Int) → (Int) → ((HL [y1, y1] → Option (Int))) → ((List Nat) × Y2) → Option ((List Nat) × Y2)) (hr271 : ∀ (x272 : (Int)) (x273 : (Int)) (x274 : (Int)) (q275 q276 : ((HL [y1, y1] → Option (Int)))) (hq277 : ∀ h, Le (q275 h) (q276 h)) (x278 : ((List Nat) × Y2)), Le (rec269 x272 x273 x274 q275 x278) (rec270 x272 x273 x274 q276 x278)) (x279 : Int) (x280 : Int) (x281 : Int) (q282 q283 : (HL [y1, y1] → Option (Int))) (hq284 : ∀ h, Le (q282 h) (q283 h)) (x285 : (List Nat) × Y2) : Le (Tm_zbo rec269 x279 x280 x281 q282 x285).ev (T_zbo rec270 x279 x280 x281 q283 x285).ev := by
  unfold Tm_zbo T_zbo
  try dsimp only
  repeat' first
    | with_reducible exact Le.refl _
    | with_reducible exact Le.f _
    | with_reducible refine Le.t ?_ ?_
    | with_reducible refine Le.g ?_
    | with_reducible refine Le.s (fun _ => ?_) (fun _ => ?_)
    | with_reducible refine Le.c ?_ (fun _ => ?_)
    | with_reducible assumption
    | with_reducible apply hr271
    | with_reducible apply hq284
    | with_reducible apply mL_zbo_0
    | with_reducible refine Le.bnd ?_
    | with_reducible intro _
theorem mF_zbo : ∀ (n : Nat) (x286 : (Int)) (x287 : (Int)) (x288 : (Int)) (q289 q290 : ((HL [y1, y1] → Option (Int)))) (hq291 : ∀ h, Le (q289 h) (q290 h)) (x292 : ((List Nat) × Y2)), Le (Fm_zbo n x286 x287 x288 q289 x292) (F_zbo n x286 x287 x288 q290 x292)
  | 0 => by intros; exact Le.none _
  | n + 1 => by
    intros
    unfold Fm_zbo F_zbo
    apply mT_zbo
    · exact mF_zbo n
    all_goals assumption
theorem mT_zau (q293 q294 : (HL [y1, y1] → Option (Int))) (hq295 : ∀ h, Le (q293 h) (q294 h)) (x296 : (List Nat) × Y2) : Le (Tm_zau q293 x296).ev (T_zau q294 x296).ev := by
  unfold Tm_zau T_zau
  try dsimp only
  repeat' first
    | with_reducible exact Le.refl _
    | with_reducible exact Le.f _
    | with_reducible refine Le.t ?_ ?_
    | with_reducible refine Le.g ?_
    | with_reducible refine Le.s (fun _ => ?_) (fun _ => ?_)
    | with_reducible refine Le.c ?_ (fun _ => ?_)
    | with_reducible assumption
    | with_reducible apply hq295
    | with_reducible apply mF_zam
    | with_reducible apply mF_zbo
    | with_reducible refine Le.bnd ?_
    | with_reducible intro _
theorem mF_zau (q297 q298 : (HL [y1, y1] → Option (Int))) (hq299 : ∀ h, Le (q297 h) (q298 h)) (x300 : (List Nat) × Y2) : Le (Fm_zau q297 x300) (F_zau q298 x300) := by
  unfold Fm_zau F_zau
  apply mT_zau
  all_goals assumption
theorem mT_zd (x301 : Int) : Le (Tm_zd x301).ev (T_zd x301).ev := by
  unfold Tm_zd T_zd
  try dsimp only
  repeat' first
    | with_reducible exact Le.refl _
    | with_reducible exact Le.f _
    | with_reducible refine Le.t ?_ ?_
    | with_reducible refine Le.g ?_
    | with_reducible refine Le.s (fun _ => ?_) (fun _ => ?_)
    | with_reducible refine Le.c ?_ (fun _ => ?_)
    | with_reducible assumption
    | with_reducible refine Le.bnd ?_
    | with_reducible intro _
theorem mF_zd (x302 : Int) : Le (Fm_zd x302) (F_zd x302) := by
  unfold Fm_zd F_zd
  apply mT_zd
  all_goals assumption
theorem mT_za (x303 : Int) (x304 : Int) : Le (Tm_za x303 x304).ev (T_za x303 x304).ev := by
  unfold Tm_za T_za
  try dsimp only
  repeat' first
    | with_reducible exact Le.refl _
    | with_reducible exact Le.f _
    | with_reducible refine Le.t ?_ ?_
    | with_reducible refine Le.g ?_
    | with_reducible refine Le.s (fun _ => ?_) (fun _ => ?_)
    | with_reducible refine Le.c ?_ (fun _ => ?_)
    | with_reducible assumption
    | with_reducible apply mF_zd
    | with_reducible refine Le.bnd ?_
    | with_reducible intro _
theorem mF_za (x305 : Int) (x306 : Int) : Le (Fm_za x305 x306) (F_za x305 x306) := by
  unfold Fm_za F_za
  apply mT_za
  all_goals assumption
theorem mS_zao_0 (x307 : Y1 × (Y1 × (Y1 × Int))) (x308 : Int) : Le (Sm_zao_0 x307 x308).ev (S_zao_0 x307 x308).ev := by
  unfold Sm_zao_0 S_zao_0
  try dsimp only
  repeat' first
    | with_reducible exact Le.refl _
    | with_reducible exact Le.f _
    | with_reducible refine Le.t ?_ ?_
    | with_reducible refine Le.g ?_
    | with_reducible refine Le.s (fun _ => ?_) (fun _ => ?_)
    | with_reducible refine Le.c ?_ (fun _ => ?_)
    | with_reducible assumption
    | with_reducible apply mF_za
    | with_reducible refine Le.bnd ?_
    | with_reducible intro _
theorem mL_zao_0 (x309 : Y1 × (Y1 × (Y1 × Int))) (x310 : Int) : Le (Lm_zao_0 x309 x310) (L_zao_0 x309 x310) := by
  unfold Lm_zao_0 L_zao_0
  refine Le.it (fun v => ?_) _ _
  apply mS_zao_0
  all_goals assumption
theorem mT_zao (x311 : Y1) (x312 : Y1) : Le (Tm_zao x311 x312).ev (T_zao x311 x312).ev := by
  unfold Tm_zao T_zao
  try dsimp only
  repeat' first
    | with_reducible exact Le.refl _
    | with_reducible exact Le.f _
    | with_reducible refine Le.t ?_ ?_
    | with_reducible refine Le.g ?_
    | with_reducible refine Le.s (fun _ => ?_) (fun _ => ?_)
    | with_reducible refine Le.c ?_ (fun _ => ?_)
    | with_reducible assumption
    | with_reducible apply mL_zao_0
    | with_reducible refine Le.bnd ?_
    | with_reducible intro _
theorem mF_zao (x313 : Y1) (x314 : Y1) : Le (Fm_zao x313 x314) (F_zao x313 x314) := by
  unfold Fm_zao F_zao
  apply mT_zao
  all_goals assumption
theorem mS_zc_0 (x315 : Int × (Y1 × Int)) (x316 : Int) : Le (Sm_zc_0 x315 x316).ev (S_zc_0 x315 x316).ev := by
  unfold Sm_zc_0 S_zc_0
  try dsimp only
  repeat' first
    | with_reducible exact Le.refl _
    | with_reducible exact Le.f _
    | with_reducible refine Le.t ?_ ?_
    | with_reducible refine Le.g ?_
    | with_reducible refine Le.s (fun _ => ?_) (fun _ => ?_)
    | with_reducible refine Le.c ?_ (fun _ => ?_)
    | with_reducible assumption
    | with_reducible refine Le.bnd ?_
    | with_reducible intro _
theorem mL_zc_0 (x317 : Int × (Y1 × Int)) (x318 : Int) : Le (Lm_zc_0 x317 x318) (L_zc_0 x317 x318) := by
  unfold Lm_zc_0 L_zc_0
  refine Le.it (fun v => ?_) _ _
  apply mS_zc_0
  all_goals assumption
theorem mT_zc (x319 : Y1) : Le (Tm_zc x319).ev (T_zc x319).ev := by
  unfold Tm_zc T_zc
  try dsimp only
  repeat' first
    | with_reducible exact Le.refl _
    | with_reducible exact Le.f _
    | with_reducible refine Le.t ?_ ?_
    | with_reducible refine Le.g ?_
    | with_reducible refine Le.s (fun _ => ?_) (fun _ => ?_)
    | with_reducible refine Le.c ?_ (fun _ => ?_)
    | with_reducible assumption
    | with_reducible apply mL_zc_0
    | with_reducible refine Le.bnd ?_
    | with_reducible intro _
theorem mF_zc (x320 : Y1) : Le (Fm_zc x320) (F_zc x320) := by
  unfold Fm_zc F_zc
  apply mT_zc
  all_goals assumption
theorem mT_zs (x321 : Y1) (x322 : Y1) : Le (Tm_zs x321 x322).ev (T_zs x321 x322).ev := by
  unfold Tm_zs T_zs
  try dsimp only
  repeat' first
    | with_reducible exact Le.refl _
    | with_reducible exact Le.f _
    | with_reducible refine Le.t ?_ ?_
    | with_reducible refine Le.g ?_
    | with_reducible refine Le.s (fun _ => ?_) (fun _ => ?_)
    | with_reducible refine Le.c ?_ (fun _ => ?_)
    | with_reducible assumption
    | with_reducible apply mF_za
    | with_reducible apply mF_zao
    | with_reducible apply mF_zc
    | with_reducible refine Le.bnd ?_
    | with_reducible intro _
theorem mF_zs (x323 : Y1) (x324 : Y1) : Le (Fm_zs x323 x324) (F_zs x323 x324) := by
  unfold Fm_zs F_zs
  apply mT_zs
  all_goals assumption
theorem mS_zx_0 (x325 : Int) (x326 : Int × Y2) : Le (Sm_zx_0 x325 x326).ev (S_zx_0 x325 x326).ev := by
  unfold Sm_zx_0 S_zx_0
  try dsimp only
  repeat' first
    | with_reducible exact Le.refl _
    | with_reducible exact Le.f _
    | with_reducible refine Le.t ?_ ?_
    | with_reducible refine Le.g ?_
    | with_reducible refine Le.s (fun _ => ?_) (fun _ => ?_)
    | with_reducible refine Le.c ?_ (fun _ => ?_)
    | with_reducible assumption
    | with_reducible apply mF_zq
    | with_reducible refine Le.bnd ?_
    | with_reducible intro _
theorem mL_zx_0 (x327 : Int) (x328 : Int × Y2) : Le (Lm_zx_0 x327 x328) (L_zx_0 x327 x328) := by
  unfold Lm_zx_0 L_zx_0
  refine Le.it (fun v => ?_) _ _
  apply mS_zx_0
  all_goals assumption
theorem mT_zx (x329 : Int) : Le (Tm_zx x329).ev (T_zx x329).ev := by
  unfold Tm_zx T_zx
  try dsimp only
  repeat' first
    | with_reducible exact Le.refl _
    | with_reducible exact Le.f _
    | with_reducible refine Le.t ?_ ?_
    | with_reducible refine Le.g ?_
    | with_reducible refine Le.s (fun _ => ?_) (fun _ => ?_)
    | with_reducible refine Le.c ?_ (fun _ => ?_)
    | with_reducible assumption
    | with_reducible apply mL_zx_0
    | with_reducible apply mF_zau
    | with_reducible apply mF_zs
    | with_reducible refine Le.bnd ?_
    | with_reducible intro _
theorem mF_zx (x330 : Int) : Le (Fm_zx x330) (F_zx x330) := by
  unfold Fm_zx F_zx
  apply mT_zx
  all_goals assumption
end Go.Proofs.Ytlemejhffpkbkaa
