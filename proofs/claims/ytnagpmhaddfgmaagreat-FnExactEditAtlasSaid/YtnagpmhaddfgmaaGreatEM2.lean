import Derived.Test.YtnagpmhaddfgmaaGreatEM1
namespace Go.Proofs.YtnagpmhaddfgmaaGreat
open List (length getD set)
open Int (toNat)
open IntKind (wrap)
theorem watp (x1 : Int × Int) (x2 : Int × Y1) : Le (wrp x1 x2).ev (wqr x1 x2).ev := by
  unfold wrp wqr
  try dsimp only
  repeat' first
    | with_reducible exact Le.refl _
    | with_reducible exact Le.f _
    | with_reducible refine Le.t ?_ ?_
    | with_reducible refine Le.g ?_
    | with_reducible refine Le.s (fun _ => ?_) (fun _ => ?_)
    | with_reducible refine Le.c ?_ (fun _ => ?_)
    | with_reducible assumption
    | with_reducible refine Le.bnd ?_
    | with_reducible intro _
theorem watq (x3 : Int × Int) (x4 : Int × Y1) : Le (wrq x3 x4) (wxv x3 x4) := by
  unfold wrq wxv
  refine Le.it (fun v => ?_) _ _
  apply watp
  all_goals assumption
theorem wbpm (x5 : Int) (x6 : Int) : Le (walr x5 x6).ev (waqm x5 x6).ev := by
  unfold walr waqm
  try dsimp only
  repeat' first
    | with_reducible exact Le.refl _
    | with_reducible exact Le.f _
    | with_reducible refine Le.t ?_ ?_
    | with_reducible refine Le.g ?_
    | with_reducible refine Le.s (fun _ => ?_) (fun _ => ?_)
    | with_reducible refine Le.c ?_ (fun _ => ?_)
    | with_reducible assumption
    | with_reducible apply watq
    | with_reducible refine Le.bnd ?_
    | with_reducible intro _
theorem wbpn (x7 : Int) (x8 : Int) : Le (wals x7 x8) (waqn x7 x8) := by
  unfold wals waqn
  apply wbpm
  all_goals assumption
theorem watr (x9 : Y1 × Y1) (x10 : Int) : Le (wrr x9 x10).ev (wqs x9 x10).ev := by
  unfold wrr wqs
  try dsimp only
  repeat' first
    | with_reducible exact Le.refl _
    | with_reducible exact Le.f _
    | with_reducible refine Le.t ?_ ?_
    | with_reducible refine Le.g ?_
    | with_reducible refine Le.s (fun _ => ?_) (fun _ => ?_)
    | with_reducible refine Le.c ?_ (fun _ => ?_)
    | with_reducible assumption
    | with_reducible refine Le.bnd ?_
    | with_reducible intro _
theorem wats (x11 : Y1 × Y1) (x12 : Int) : Le (wrs x11 x12) (wxw x11 x12) := by
  unfold wrs wxw
  refine Le.it (fun v => ?_) _ _
  apply watr
  all_goals assumption
theorem wbpo (x13 : Y1) (x14 : Y1) : Le (walt x13 x14).ev (waqo x13 x14).ev := by
  unfold walt waqo
  try dsimp only
  repeat' first
    | with_reducible exact Le.refl _
    | with_reducible exact Le.f _
    | with_reducible refine Le.t ?_ ?_
    | with_reducible refine Le.g ?_
    | with_reducible refine Le.s (fun _ => ?_) (fun _ => ?_)
    | with_reducible refine Le.c ?_ (fun _ => ?_)
    | with_reducible assumption
    | with_reducible apply wats
    | with_reducible refine Le.bnd ?_
    | with_reducible intro _
theorem wbpp (x15 : Y1) (x16 : Y1) : Le (walu x15 x16) (waqp x15 x16) := by
  unfold walu waqp
  apply wbpo
  all_goals assumption
theorem watt (x17 : Int × (Y2 × (Int × Y1))) (x18 : Int) : Le (wrt x17 x18).ev (wqt x17 x18).ev := by
  unfold wrt wqt
  try dsimp only
  repeat' first
    | with_reducible exact Le.refl _
    | with_reducible exact Le.f _
    | with_reducible refine Le.t ?_ ?_
    | with_reducible refine Le.g ?_
    | with_reducible refine Le.s (fun _ => ?_) (fun _ => ?_)
    | with_reducible refine Le.c ?_ (fun _ => ?_)
    | with_reducible assumption
    | with_reducible apply wbpp
    | with_reducible refine Le.bnd ?_
    | with_reducible intro _
theorem watu (x19 : Int × (Y2 × (Int × Y1))) (x20 : Int) : Le (wru x19 x20) (wxx x19 x20) := by
  unfold wru wxx
  refine Le.it (fun v => ?_) _ _
  apply watt
  all_goals assumption
theorem watv (x21 : Int) (x22 : Y2 × Int) : Le (wrv x21 x22).ev (wqu x21 x22).ev := by
  unfold wrv wqu
  try dsimp only
  repeat' first
    | with_reducible exact Le.refl _
    | with_reducible exact Le.f _
    | with_reducible refine Le.t ?_ ?_
    | with_reducible refine Le.g ?_
    | with_reducible refine Le.s (fun _ => ?_) (fun _ => ?_)
    | with_reducible refine Le.c ?_ (fun _ => ?_)
    | with_reducible assumption
    | with_reducible apply wbpn
    | with_reducible apply watu
    | with_reducible refine Le.bnd ?_
    | with_reducible intro _
theorem watw (x23 : Int) (x24 : Y2 × Int) : Le (wrw x23 x24) (wxy x23 x24) := by
  unfold wrw wxy
  refine Le.it (fun v => ?_) _ _
  apply watv
  all_goals assumption
theorem wbpq (x25 : Int) : Le (walv x25).ev (waqq x25).ev := by
  unfold walv waqq
  try dsimp only
  repeat' first
    | with_reducible exact Le.refl _
    | with_reducible exact Le.f _
    | with_reducible refine Le.t ?_ ?_
    | with_reducible refine Le.g ?_
    | with_reducible refine Le.s (fun _ => ?_) (fun _ => ?_)
    | with_reducible refine Le.c ?_ (fun _ => ?_)
    | with_reducible assumption
    | with_reducible apply watw
    | with_reducible refine Le.bnd ?_
    | with_reducible intro _
theorem wbpr (x26 : Int) : Le (walw x26) (wajn x26) := by
  unfold walw wajn
  apply wbpq
  all_goals assumption
theorem wcbv (x27 : Int) (x28 : Int) : Le (wbkd x27 x28).ev (T_zz x27 x28).ev := by
  unfold wbkd T_zz
  try dsimp only
  repeat' first
    | with_reducible exact Le.refl _
    | with_reducible exact Le.f _
    | with_reducible refine Le.t ?_ ?_
    | with_reducible refine Le.g ?_
    | with_reducible refine Le.s (fun _ => ?_) (fun _ => ?_)
    | with_reducible refine Le.c ?_ (fun _ => ?_)
    | with_reducible assumption
    | with_reducible refine Le.bnd ?_
    | with_reducible intro _
theorem wbps (x29 : Int) (x30 : Int) : Le (watm x29 x30) (F_zz x29 x30) := by
  unfold watm F_zz
  apply wcbv
  all_goals assumption
theorem watx (x31 : Int) (x32 : Int × Y1) : Le (wrx x31 x32).ev (wqw x31 x32).ev := by
  unfold wrx wqw
  try dsimp only
  repeat' first
    | with_reducible exact Le.refl _
    | with_reducible exact Le.f _
    | with_reducible refine Le.t ?_ ?_
    | with_reducible refine Le.g ?_
    | with_reducible refine Le.s (fun _ => ?_) (fun _ => ?_)
    | with_reducible refine Le.c ?_ (fun _ => ?_)
    | with_reducible assumption
    | with_reducible apply wbps
    | with_reducible refine Le.bnd ?_
    | with_reducible intro _
theorem waty (x33 : Int) (x34 : Int × Y1) : Le (wry x33 x34) (wya x33 x34) := by
  unfold wry wya
  refine Le.it (fun v => ?_) _ _
  apply watx
  all_goals assumption
theorem wbpt (x35 : Int) : Le (walx x35).ev (warh x35).ev := by
  unfold walx warh
  try dsimp only
  repeat' first
    | with_reducible exact Le.refl _
    | with_reducible exact Le.f _
    | with_reducible refine Le.t ?_ ?_
    | with_reducible refine Le.g ?_
    | with_reducible refine Le.s (fun _ => ?_) (fun _ => ?_)
    | with_reducible refine Le.c ?_ (fun _ => ?_)
    | with_reducible assumption
    | with_reducible apply waty
    | with_reducible refine Le.bnd ?_
    | with_reducible intro _
theorem waxe (x36 : Int) : Le (wacu x36) (wkt x36) := by
  unfold wacu wkt
  apply wbpt
  all_goals assumption
theorem wbpu (x37 : Int) : Le (waly x37).ev (warm x37).ev := by
  unfold waly warm
  try dsimp only
  repeat' first
    | with_reducible exact Le.refl _
    | with_reducible exact Le.f _
    | with_reducible refine Le.t ?_ ?_
    | with_reducible refine Le.g ?_
    | with_reducible refine Le.s (fun _ => ?_) (fun _ => ?_)
    | with_reducible refine Le.c ?_ (fun _ => ?_)
    | with_reducible assumption
    | with_reducible refine Le.bnd ?_
    | with_reducible intro _
theorem wbpv (x38 : Int) : Le (walz x38) (warn x38) := by
  unfold walz warn
  apply wbpu
  all_goals assumption
theorem wbpw (x39 : Int) : Le (wama x39).ev (waro x39).ev := by
  unfold wama waro
  try dsimp only
  repeat' first
    | with_reducible exact Le.refl _
    | with_reducible exact Le.f _
    | with_reducible refine Le.t ?_ ?_
    | with_reducible refine Le.g ?_
    | with_reducible refine Le.s (fun _ => ?_) (fun _ => ?_)
    | with_reducible refine Le.c ?_ (fun _ => ?_)
    | with_reducible assumption
    | with_reducible apply wbpv
    | with_reducible refine Le.bnd ?_
    | with_reducible intro _
theorem waxf (x40 : Int) : Le (wacv x40) (wakj x40) := by
  unfold wacv wakj
  apply wbpw
  all_goals assumption
theorem watz (c41 : (Int)) (c42 : (Int)) (q43 q44 : ((HL [y1, y1] → Option (Int)))) (hq45 : ∀ h, Le (q43 h) (q44 h)) (c46 : Int) (x47 : Int × ((List Nat) × Y2)) : Le (wrz (c41, (c42, (q43, c46))) x47).ev (wqx (c41, (c42, (q44, c46))) x47).ev := by
  unfold wrz wqx
  try dsimp only
  repeat' first
    | with_reducible exact Le.refl _
    | with_reducible exact Le.f _
    | with_reducible refine Le.t ?_ ?_
    | with_reducible refine Le.g ?_
    | with_reducible refine Le.s (fun _ => ?_) (fun _ => ?_)
    | with_reducible refine Le.c ?_ (fun _ => ?_)
    | with_reducible assumption
    | with_reducible apply hq45
    | with_reducible refine Le.bnd ?_
    | with_reducible intro _
theorem waua (c48 : (Int)) (c49 : (Int)) (q50 q51 : ((HL [y1, y1] → Option (Int)))) (hq52 : ∀ h, Le (q50 h) (q51 h)) (c53 : Int) (x54 : Int × ((List Nat) × Y2)) : Le (wsa (c48, (c49, (q50, c53))) x54) (wyb (c48, (c49, (q51, c53))) x54) := by
  unfold wsa wyb
  refine Le.it (fun v => ?_) _ _
  apply watz
  all_goals assumption
theorem waub (c55 : (Int)) (c56 : (Int)) (q57 q58 : HL [y1, y1] → Option (Int)) (hq59 : ∀ h, Le (q57 h) (q58 h)) (x60 : Int × ((List Nat) × Y2)) : Le (wsb (c55, (c56, q57)) x60).ev (wqy (c55, (c56, q58)) x60).ev := by
  unfold wsb wqy
  try dsimp only
  repeat' first
    | with_reducible exact Le.refl _
    | with_reducible exact Le.f _
    | with_reducible refine Le.t ?_ ?_
    | with_reducible refine Le.g ?_
    | with_reducible refine Le.s (fun _ => ?_) (fun _ => ?_)
    | with_reducible refine Le.c ?_ (fun _ => ?_)
    | with_reducible assumption
    | with_reducible apply hq59
    | with_reducible apply waua
    | with_reducible refine Le.bnd ?_
    | with_reducible intro _
theorem wauc (c61 : (Int)) (c62 : (Int)) (q63 q64 : HL [y1, y1] → Option (Int)) (hq65 : ∀ h, Le (q63 h) (q64 h)) (x66 : Int × ((List Nat) × Y2)) : Le (wsc (c61, (c62, q63)) x66) (wyc (c61, (c62, q64)) x66) := by
  unfold wsc wyc
  refine Le.it (fun v => ?_) _ _
  apply waub
  all_goals assumption
theorem wbpx (x67 : Int) (x68 : Int) (q69 q70 : (HL [y1, y1] → Option (Int))) (hq71 : ∀ h, Le (q69 h) (q70 h)) (x72 : (List Nat) × Y2) : Le (wamb x67 x68 q69 x72).ev (warq x67 x68 q70 x72).ev := by
  unfold wamb warq
  try dsimp only
  repeat' first
    | with_reducible exact Le.refl _
    | with_reducible exact Le.f _
    | with_reducible refine Le.t ?_ ?_
    | with_reducible refine Le.g ?_
    | with_reducible refine Le.s (fun _ => ?_) (fun _ => ?_)
    | with_reducible refine Le.c ?_ (fun _ => ?_)
    | with_reducible assumption
    | with_reducible apply hq71
    | with_reducible apply wauc
    | with_reducible refine Le.bnd ?_
    | with_reducible intro _
theorem wbpy (x73 : Int) (x74 : Int) (q75 q76 : (HL [y1, y1] → Option (Int))) (hq77 : ∀ h, Le (q75 h) (q76 h)) (x78 : (List Nat) × Y2) : Le (wamc x73 x74 q75 x78) (warr x73 x74 q76 x78) := by
  unfold wamc warr
  apply wbpx
  all_goals assumption
theorem wbpz (x79 : Int) : Le (wamd x79).ev (warv x79).ev := by
  unfold wamd warv
  try dsimp only
  repeat' first
    | with_reducible exact Le.refl _
    | with_reducible exact Le.f _
    | with_reducible refine Le.t ?_ ?_
    | with_reducible refine Le.g ?_
    | with_reducible refine Le.s (fun _ => ?_) (fun _ => ?_)
    | with_reducible refine Le.c ?_ (fun _ => ?_)
    | with_reducible assumption
    | with_reducible apply waxf
    | with_reducible refine Le.bnd ?_
    | with_reducible intro _
theorem wbqa (x80 : Int) : Le (wame x80) (warw x80) := by
  unfold wame warw
  apply wbpz
  all_goals assumption
theorem wbqb (x81 : Int) : Le (wamf x81).ev (warx x81).ev := by
  unfold wamf warx
  try dsimp only
  repeat' first
    | with_reducible exact Le.refl _
    | with_reducible exact Le.f _
    | with_reducible refine Le.t ?_ ?_
    | with_reducible refine Le.g ?_
    | with_reducible refine Le.s (fun _ => ?_) (fun _ => ?_)
    | with_reducible refine Le.c ?_ (fun _ => ?_)
    | with_reducible assumption
    | with_reducible refine Le.bnd ?_
    | with_reducible intro _
theorem wbqc (x82 : Int) : Le (wamg x82) (wary x82) := by
  unfold wamg wary
  apply wbqb
  all_goals assumption
theorem waud (x83 : Int × (Int × Int)) (x84 : Int × (((List Nat) × Y2) × Int)) : Le (wsd x83 x84).ev (wqz x83 x84).ev := by
  unfold wsd wqz
  try dsimp only
  repeat' first
    | with_reducible exact Le.refl _
    | with_reducible exact Le.f _
    | with_reducible refine Le.t ?_ ?_
    | with_reducible refine Le.g ?_
    | with_reducible refine Le.s (fun _ => ?_) (fun _ => ?_)
    | with_reducible refine Le.c ?_ (fun _ => ?_)
    | with_reducible assumption
    | with_reducible apply wbqc
    | with_reducible refine Le.bnd ?_
    | with_reducible intro _
theorem waue (x85 : Int × (Int × Int)) (x86 : Int × (((List Nat) × Y2) × Int)) : Le (wsf x85 x86) (wyd x85 x86) := by
  unfold wsf wyd
  refine Le.it (fun v => ?_) _ _
  apply waud
  all_goals assumption
theorem wbqd (x87 : Int) (x88 : Int) (q89 q90 : (HL [y1, y1] → Option (Int))) (hq91 : ∀ h, Le (q89 h) (q90 h)) (x92 : (List Nat) × Y2) : Le (wamh x87 x88 q89 x92).ev (warz x87 x88 q90 x92).ev := by
  unfold wamh warz
  try dsimp only
  repeat' first
    | with_reducible exact Le.refl _
    | with_reducible exact Le.f _
    | with_reducible refine Le.t ?_ ?_
    | with_reducible refine Le.g ?_
    | with_reducible refine Le.s (fun _ => ?_) (fun _ => ?_)
    | with_reducible refine Le.c ?_ (fun _ => ?_)
    | with_reducible assumption
    | with_reducible apply hq91
    | with_reducible apply wbqa
    | with_reducible apply waue
    | with_reducible refine Le.bnd ?_
    | with_reducible intro _
theorem wbqe (x93 : Int) (x94 : Int) (q95 q96 : (HL [y1, y1] → Option (Int))) (hq97 : ∀ h, Le (q95 h) (q96 h)) (x98 : (List Nat) × Y2) : Le (wami x93 x94 q95 x98) (wasa x93 x94 q96 x98) := by
  unfold wami wasa
  apply wbqd
  all_goals assumption
theorem wbqf (x99 : List Y1) (x100 : Int) (x101 : Int) (q102 q103 : (HL [y1, y1] → Option (Int))) (hq104 : ∀ h, Le (q102 h) (q103 h)) (x105 : Int) : Le (wamj x99 x100 x101 q102 x105).ev (wasb x99 x100 x101 q103 x105).ev := by
  unfold wamj wasb
  try dsimp only
  repeat' first
    | with_reducible exact Le.refl _
    | with_reducible exact Le.f _
    | with_reducible refine Le.t ?_ ?_
    | with_reducible refine Le.g ?_
    | with_reducible refine Le.s (fun _ => ?_) (fun _ => ?_)
    | with_reducible refine Le.c ?_ (fun _ => ?_)
    | with_reducible assumption
    | with_reducible apply hq104
    | with_reducible refine Le.bnd ?_
    | with_reducible intro _
theorem wbqg (x106 : List Y1) (x107 : Int) (x108 : Int) (q109 q110 : (HL [y1, y1] → Option (Int))) (hq111 : ∀ h, Le (q109 h) (q110 h)) (x112 : Int) : Le (wvw x106 x107 x108 q109 x112) (waer x106 x107 x108 q110 x112) := by
  unfold wvw waer
  apply wbqf
  all_goals assumption
theorem wbqh (x113 : List Y1) (x114 : Int) (x115 : Int) (x116 : Int) (q117 q118 : (HL [y1, y1] → Option (Int))) (hq119 : ∀ h, Le (q117 h) (q118 h)) (x120 : Int) : Le (wamk x113 x114 x115 x116 q117 x120).ev (wasc x113 x114 x115 x116 q118 x120).ev := by
  unfold wamk wasc
  try dsimp only
  repeat' first
    | with_reducible exact Le.refl _
    | with_reducible exact Le.f _
    | with_reducible refine Le.t ?_ ?_
    | with_reducible refine Le.g ?_
    | with_reducible refine Le.s (fun _ => ?_) (fun _ => ?_)
    | with_reducible refine Le.c ?_ (fun _ => ?_)
    | with_reducible assumption
    | with_reducible apply hq119
    | with_reducible apply wbqg
    | with_reducible refine Le.bnd ?_
    | with_reducible intro _
theorem waxg (x121 : List Y1) (x122 : Int) (x123 : Int) (x124 : Int) (q125 q126 : (HL [y1, y1] → Option (Int))) (hq127 : ∀ h, Le (q125 h) (q126 h)) (x128 : Int) : Le (wvx x121 x122 x123 x124 q125 x128) (waes x121 x122 x123 x124 q126 x128) := by
  unfold wvx waes
  apply wbqh
  all_goals assumption
theorem wbqi (x129 : List Y1) (x130 : Int) (q131 q132 : (HL [y1, y1] → Option (Int))) (hq133 : ∀ h, Le (q131 h) (q132 h)) (x134 : Int) : Le (waml x129 x130 q131 x134).ev (wase x129 x130 q132 x134).ev := by
  unfold waml wase
  try dsimp only
  repeat' first
    | with_reducible exact Le.refl _
    | with_reducible exact Le.f _
    | with_reducible refine Le.t ?_ ?_
    | with_reducible refine Le.g ?_
    | with_reducible refine Le.s (fun _ => ?_) (fun _ => ?_)
    | with_reducible refine Le.c ?_ (fun _ => ?_)
    | with_reducible assumption
    | with_reducible apply hq133
    | with_reducible apply waxg
    | with_reducible refine Le.bnd ?_
    | with_reducible intro _
theorem wbqj (x135 : List Y1) (x136 : Int) (q137 q138 : (HL [y1, y1] → Option (Int))) (hq139 : ∀ h, Le (q137 h) (q138 h)) (x140 : Int) : Le (wvy x135 x136 q137 x140) (waet x135 x136 q138 x140) := by
  unfold wvy waet
  apply wbqi
  all_goals assumption
theorem wbqk (x141 : List Y1) (x142 : Int) (x143 : Int) (q144 q145 : (HL [y1, y1] → Option (Int))) (hq146 : ∀ h, Le (q144 h) (q145 h)) : Le (wamm x141 x142 x143 q144).ev (wasf x141 x142 x143 q145).ev := by
  unfold wamm wasf
  try dsimp only
  repeat' first
    | with_reducible exact Le.refl _
    | with_reducible exact Le.f _
    | with_reducible refine Le.t ?_ ?_
    | with_reducible refine Le.g ?_
    | with_reducible refine Le.s (fun _ => ?_) (fun _ => ?_)
    | with_reducible refine Le.c ?_ (fun _ => ?_)
    | with_reducible assumption
    | with_reducible apply hq146
    | with_reducible apply wbqj
    | with_reducible apply waxg
    | with_reducible refine Le.bnd ?_
    | with_reducible intro _
theorem wbql (x147 : List Y1) (x148 : Int) (x149 : Int) (q150 q151 : (HL [y1, y1] → Option (Int))) (hq152 : ∀ h, Le (q150 h) (q151 h)) : Le (wacw x147 x148 x149 q150) (wakk x147 x148 x149 q151) := by
  unfold wacw wakk
  apply wbqk
  all_goals assumption
theorem wauf (c153 : (Int)) (q154 q155 : ((HL [y1, y1] → Option (Int)))) (hq156 : ∀ h, Le (q154 h) (q155 h)) (c157 : (Int)) (c158 : (List Nat)) (c159 : List Y1) (x160 : Int) : Le (wsg (c153, (q154, (c157, (c158, c159)))) x160).ev (wra (c153, (q155, (c157, (c158, c159)))) x160).ev := by
  unfold wsg wra
  try dsimp only
  repeat' first
    | with_reducible exact Le.refl _
    | with_reducible exact Le.f _
    | with_reducible refine Le.t ?_ ?_
    | with_reducible refine Le.g ?_
    | with_reducible refine Le.s (fun _ => ?_) (fun _ => ?_)
    | with_reducible refine Le.c ?_ (fun _ => ?_)
    | with_reducible assumption
    | with_reducible apply hq156
    | with_reducible refine Le.bnd ?_
    | with_reducible intro _
theorem waug (c161 : (Int)) (q162 q163 : ((HL [y1, y1] → Option (Int)))) (hq164 : ∀ h, Le (q162 h) (q163 h)) (c165 : (Int)) (c166 : (List Nat)) (c167 : List Y1) (x168 : Int) : Le (wsh (c161, (q162, (c165, (c166, c167)))) x168) (wye (c161, (q163, (c165, (c166, c167)))) x168) := by
  unfold wsh wye
  refine Le.it (fun v => ?_) _ _
  apply wauf
  all_goals assumption
theorem wauh (c169 : (Int)) (q170 q171 : ((HL [y1, y1] → Option (Int)))) (hq172 : ∀ h, Le (q170 h) (q171 h)) (c173 : (Int)) (c174 : (List Nat)) (c175 : List Y1) (x176 : Int) : Le (wsi (c169, (q170, (c173, (c174, c175)))) x176).ev (wrb (c169, (q171, (c173, (c174, c175)))) x176).ev := by
  unfold wsi wrb
  try dsimp only
  repeat' first
    | with_reducible exact Le.refl _
    | with_reducible exact Le.f _
    | with_reducible refine Le.t ?_ ?_
    | with_reducible refine Le.g ?_
    | with_reducible refine Le.s (fun _ => ?_) (fun _ => ?_)
    | with_reducible refine Le.c ?_ (fun _ => ?_)
    | with_reducible assumption
    | with_reducible apply hq172
    | with_reducible refine Le.bnd ?_
    | with_reducible intro _
theorem waui (c177 : (Int)) (q178 q179 : ((HL [y1, y1] → Option (Int)))) (hq180 : ∀ h, Le (q178 h) (q179 h)) (c181 : (Int)) (c182 : (List Nat)) (c183 : List Y1) (x184 : Int) : Le (wsj (c177, (q178, (c181, (c182, c183)))) x184) (wyf (c177, (q179, (c181, (c182, c183)))) x184) := by
  unfold wsj wyf
  refine Le.it (fun v => ?_) _ _
  apply wauh
  all_goals assumption
theorem wauj (c185 : (Int)) (q186 q187 : ((HL [y1, y1] → Option (Int)))) (hq188 : ∀ h, Le (q186 h) (q187 h)) (c189 : (Int)) (c190 : (List Nat)) (c191 : List Y1) (x192 : Int) : Le (wsk (c185, (q186, (c189, (c190, c191)))) x192).ev (wrc (c185, (q187, (c189, (c190, c191)))) x192).ev := by
  unfold wsk wrc
  try dsimp only
  repeat' first
    | with_reducible exact Le.refl _
    | with_reducible exact Le.f _
    | with_reducible refine Le.t ?_ ?_
    | with_reducible refine Le.g ?_
    | with_reducible refine Le.s (fun _ => ?_) (fun _ => ?_)
    | with_reducible refine Le.c ?_ (fun _ => ?_)
    | with_reducible assumption
    | with_reducible apply hq188
    | with_reducible refine Le.bnd ?_
    | with_reducible intro _
theorem wauk (c193 : (Int)) (q194 q195 : ((HL [y1, y1] → Option (Int)))) (hq196 : ∀ h, Le (q194 h) (q195 h)) (c197 : (Int)) (c198 : (List Nat)) (c199 : List Y1) (x200 : Int) : Le (wsl (c193, (q194, (c197, (c198, c199)))) x200) (wyg (c193, (q195, (c197, (c198, c199)))) x200) := by
  unfold wsl wyg
  refine Le.it (fun v => ?_) _ _
  apply wauj
  all_goals assumption
theorem waul (c201 : (Int)) (q202 q203 : ((HL [y1, y1] → Option (Int)))) (hq204 : ∀ h, Le (q202 h) (q203 h)) (c205 : (Int)) (c206 : (List Nat)) (c207 : List Y1) (x208 : Int) : Le (wsm (c201, (q202, (c205, (c206, c207)))) x208).ev (wrd (c201, (q203, (c205, (c206, c207)))) x208).ev := by
  unfold wsm wrd
  try dsimp only
  repeat' first
    | with_reducible exact Le.refl _
    | with_reducible exact Le.f _
    | with_reducible refine Le.t ?_ ?_
    | with_reducible refine Le.g ?_
    | with_reducible refine Le.s (fun _ => ?_) (fun _ => ?_)
    | with_reducible refine Le.c ?_ (fun _ => ?_)
    | with_reducible assumption
    | with_reducible apply hq204
    | with_reducible refine Le.bnd ?_
    | with_reducible intro _
theorem waum (c209 : (Int)) (q210 q211 : ((HL [y1, y1] → Option (Int)))) (hq212 : ∀ h, Le (q210 h) (q211 h)) (c213 : (Int)) (c214 : (List Nat)) (c215 : List Y1) (x216 : Int) : Le (wsn (c209, (q210, (c213, (c214, c215)))) x216) (wyh (c209, (q211, (c213, (c214, c215)))) x216) := by
  unfold wsn wyh
  refine Le.it (fun v => ?_) _ _
  apply waul
  all_goals assumption
theorem waun (c217 : (Int)) (q218 q219 : HL [y1, y1] → Option (Int)) (hq220 : ∀ h, Le (q218 h) (q219 h)) (x221 : Int × (Int × ((List Nat) × Y2))) : Le (wso (c217, q218) x221).ev (wre (c217, q219) x221).ev := by
  unfold wso wre
  try dsimp only
  repeat' first
    | with_reducible exact Le.refl _
    | with_reducible exact Le.f _
    | with_reducible refine Le.t ?_ ?_
    | with_reducible refine Le.g ?_
    | with_reducible refine Le.s (fun _ => ?_) (fun _ => ?_)
    | with_reducible refine Le.c ?_ (fun _ => ?_)
    | with_reducible assumption
    | with_reducible apply hq220
    | with_reducible apply wauk
    | with_reducible apply waum
    | with_reducible refine Le.bnd ?_
    | with_reducible intro _
theorem wauo (c222 : (Int)) (q223 q224 : HL [y1, y1] → Option (Int)) (hq225 : ∀ h, Le (q223 h) (q224 h)) (x226 : Int × (Int × ((List Nat) × Y2))) : Le (wsp (c222, q223) x226) (wyi (c222, q224) x226) := by
  unfold wsp wyi
  refine Le.it (fun v => ?_) _ _
  apply waun
  all_goals assumption
theorem wbqm (x227 : Int) (x228 : Int) (x229 : Int) (q230 q231 : (HL [y1, y1] → Option (Int))) (hq232 : ∀ h, Le (q230 h) (q231 h)) (x233 : (List Nat) × Y2) : Le (wamn x227 x228 x229 q230 x233).ev (wasg x227 x228 x229 q231 x233).ev := by
  unfold wamn wasg
  try dsimp only
  repeat' first
    | with_reducible exact Le.refl _
    | with_reducible exact Le.f _
    | with_reducible refine Le.t ?_ ?_
    | with_reducible refine Le.g ?_
    | with_reducible refine Le.s (fun _ => ?_) (fun _ => ?_)
    | with_reducible refine Le.c ?_ (fun _ => ?_)
    | with_reducible assumption
    | with_reducible apply hq232
    | with_reducible apply waug
    | with_reducible apply waui
    | with_reducible apply wauo
    | with_reducible refine Le.bnd ?_
    | with_reducible intro _
theorem wbqn (x234 : Int) (x235 : Int) (x236 : Int) (q237 q238 : (HL [y1, y1] → Option (Int))) (hq239 : ∀ h, Le (q237 h) (q238 h)) (x240 : (List Nat) × Y2) : Le (wee x234 x235 x236 q237 x240) (wgx x234 x235 x236 q238 x240) := by
  unfold wee wgx
  apply wbqm
  all_goals assumption
theorem waup (rec241 rec242 : (Int) → (Int) → (Int) → ((HL [y1, y1] → Option (Int))) → ((List Nat) × Y2) → Option ((List Nat) × Y2)) (hr243 : ∀ (x244 : (Int)) (x245 : (Int)) (x246 : (Int)) (q247 q248 : ((HL [y1, y1] → Option (Int)))) (hq249 : ∀ h, Le (q247 h) (q248 h)) (x250 : ((List Nat) × Y2)), Le (rec241 x244 x245 x246 q247 x250) (rec242 x244 x245 x246 q248 x250)) (q251 q252 : (HL [y1, y1] → Option (Int))) (hq253 : ∀ h, Le (q251 h) (q252 h)) (x254 : Int × (Int × (Int × (Bool × (Bool × ((List Nat) × Y2)))))) : Le (wsq rec241 q251 x254).ev (wrf rec242 q252 x254).ev := by
  unfold wsq wrf
  try dsimp only
  repeat' first
    | with_reducible exact Le.refl _
    | with_reducible exact Le.f _
    | with_reducible refine Le.t ?_ ?_
    | with_reducible refine Le.g ?_
    | with_reducible refine Le.s (fun _ => ?_) (fun _ => ?_)
    | with_reducible refine Le.c ?_ (fun _ => ?_)
    | with_reducible assumption
    | with_reducible apply hr243
    | with_reducible apply hq253
    | with_reducible apply wbpy
    | with_reducible apply wbqe
    | with_reducible apply wbql
    | with_reducible apply wbqn
    | with_reducible refine Le.bnd ?_
    | with_reducible intro _
theorem wauq (rec255 rec256 : (Int) → (Int) → (Int) → ((HL [y1, y1] → Option (Int))) → ((List Nat) × Y2) → Option ((List Nat) × Y2)) (hr257 : ∀ (x258 : (Int)) (x259 : (Int)) (x260 : (Int)) (q261 q262 : ((HL [y1, y1] → Option (Int)))) (hq263 : ∀ h, Le (q261 h) (q262 h)) (x264 : ((List Nat) × Y2)), Le (rec255 x258 x259 x260 q261 x264) (rec256 x258 x259 x260 q262 x264)) (q265 q266 : (HL [y1, y1] → Option (Int))) (hq267 : ∀ h, Le (q265 h) (q266 h)) (x268 : Int × (Int × (Int × (Bool × (Bool × ((List Nat) × Y2)))))) : Le (wsr rec255 q265 x268) (wym rec256 q266 x268) := by
  unfold wsr wym
  refine Le.it (fun v => ?_) _ _
  apply waup
  all_goals assumption
theorem wbqo (rec269 rec270 : (Int) → (Int) → (Int) → ((HL [y1, y1] → Option (Int))) → ((List Nat) × Y2) → Option ((List Nat) × Y2)) (hr271 : ∀ (x272 : (Int)) (x273 : (Int)) (x274 : (Int)) (q275 q276 : ((HL [y1, y1] → Option (Int)))) (hq277 : ∀ h, Le (q275 h) (q276 h)) (x278 : ((List Nat) × Y2)), Le (rec269 x272 x273 x274 q275 x278) (rec270 x272 x273 x274 q276 x278)) (x279 : Int) (x280 : Int) (x281 : Int) (q282 q283 : (HL [y1, y1] → Option (Int))) (hq284 : ∀ h, Le (q282 h) (q283 h)) (x285 : (List Nat) × Y2) : Le (wamo rec269 x279 x280 x281 q282 x285).ev (wash rec270 x279 x280 x281 q283 x285).ev := by
  unfold wamo wash
  try dsimp only
  repeat' first
    | with_reducible exact Le.refl _
    | with_reducible exact Le.f _
    | with_reducible refine Le.t ?_ ?_
    | with_reducible refine Le.g ?_
    | with_reducible refine Le.s (fun _ => ?_) (fun _ => ?_)
    | with_reducible refine Le.c ?_ (fun _ => ?_)
    | with_reducible assumption
    | with_reducible apply hr271
    | with_reducible apply hq284
    | with_reducible apply wauq
    | with_reducible refine Le.bnd ?_
    | with_reducible intro _
theorem waxh : ∀ (n : Nat) (x286 : (Int)) (x287 : (Int)) (x288 : (Int)) (q289 q290 : ((HL [y1, y1] → Option (Int)))) (hq291 : ∀ h, Le (q289 h) (q290 h)) (x292 : ((List Nat) × Y2)), Le (wacx n x286 x287 x288 q289 x292) (wrg n x286 x287 x288 q290 x292)
  | 0 => by intros; exact Le.none _
  | n + 1 => by
    intros
    unfold wacx wrg
    apply wbqo
    · exact waxh n
    all_goals assumption
theorem wbqp (q293 q294 : (HL [y1, y1] → Option (Int))) (hq295 : ∀ h, Le (q293 h) (q294 h)) (x296 : (List Nat) × Y2) : Le (wamp q293 x296).ev (wasi q294 x296).ev := by
  unfold wamp wasi
  try dsimp only
  repeat' first
    | with_reducible exact Le.refl _
    | with_reducible exact Le.f _
    | with_reducible refine Le.t ?_ ?_
    | with_reducible refine Le.g ?_
    | with_reducible refine Le.s (fun _ => ?_) (fun _ => ?_)
    | with_reducible refine Le.c ?_ (fun _ => ?_)
    | with_reducible assumption
    | with_reducible apply hq295
    | with_reducible apply waxf
    | with_reducible apply waxh
    | with_reducible refine Le.bnd ?_
    | with_reducible intro _
theorem wbqq (q297 q298 : (HL [y1, y1] → Option (Int))) (hq299 : ∀ h, Le (q297 h) (q298 h)) (x300 : (List Nat) × Y2) : Le (wamq q297 x300) (wasj q298 x300) := by
  unfold wamq wasj
  apply wbqp
  all_goals assumption
theorem wcbw (x301 : Int) : Le (wbke x301).ev (T_zc x301).ev := by
  unfold wbke T_zc
  try dsimp only
  repeat' first
    | with_reducible exact Le.refl _
    | with_reducible exact Le.f _
    | with_reducible refine Le.t ?_ ?_
    | with_reducible refine Le.g ?_
    | with_reducible refine Le.s (fun _ => ?_) (fun _ => ?_)
    | with_reducible refine Le.c ?_ (fun _ => ?_)
    | with_reducible assumption
    | with_reducible refine Le.bnd ?_
    | with_reducible intro _
theorem wcbx (x302 : Int) : Le (watn x302) (F_zc x302) := by
  unfold watn F_zc
  apply wcbw
  all_goals assumption
theorem wcby (x303 : Int) (x304 : Int) : Le (wbkf x303 x304).ev (T_za x303 x304).ev := by
  unfold wbkf T_za
  try dsimp only
  repeat' first
    | with_reducible exact Le.refl _
    | with_reducible exact Le.f _
    | with_reducible refine Le.t ?_ ?_
    | with_reducible refine Le.g ?_
    | with_reducible refine Le.s (fun _ => ?_) (fun _ => ?_)
    | with_reducible refine Le.c ?_ (fun _ => ?_)
    | with_reducible assumption
    | with_reducible apply wcbx
    | with_reducible refine Le.bnd ?_
    | with_reducible intro _
theorem wbqr (x305 : Int) (x306 : Int) : Le (wato x305 x306) (F_za x305 x306) := by
  unfold wato F_za
  apply wcby
  all_goals assumption
theorem waur (x307 : Y1 × (Y1 × (Y1 × Int))) (x308 : Int) : Le (wss x307 x308).ev (wrh x307 x308).ev := by
  unfold wss wrh
  try dsimp only
  repeat' first
    | with_reducible exact Le.refl _
    | with_reducible exact Le.f _
    | with_reducible refine Le.t ?_ ?_
    | with_reducible refine Le.g ?_
    | with_reducible refine Le.s (fun _ => ?_) (fun _ => ?_)
    | with_reducible refine Le.c ?_ (fun _ => ?_)
    | with_reducible assumption
    | with_reducible apply wbqr
    | with_reducible refine Le.bnd ?_
    | with_reducible intro _
theorem waus (x309 : Y1 × (Y1 × (Y1 × Int))) (x310 : Int) : Le (wsu x309 x310) (wyn x309 x310) := by
  unfold wsu wyn
  refine Le.it (fun v => ?_) _ _
  apply waur
  all_goals assumption
theorem wbqs (x311 : Y1) (x312 : Y1) : Le (wamr x311 x312).ev (wasl x311 x312).ev := by
  unfold wamr wasl
  try dsimp only
  repeat' first
    | with_reducible exact Le.refl _
    | with_reducible exact Le.f _
    | with_reducible refine Le.t ?_ ?_
    | with_reducible refine Le.g ?_
    | with_reducible refine Le.s (fun _ => ?_) (fun _ => ?_)
    | with_reducible refine Le.c ?_ (fun _ => ?_)
    | with_reducible assumption
    | with_reducible apply waus
    | with_reducible refine Le.bnd ?_
    | with_reducible intro _
theorem wbqt (x313 : Y1) (x314 : Y1) : Le (wams x313 x314) (wasm x313 x314) := by
  unfold wams wasm
  apply wbqs
  all_goals assumption
theorem wbki (x315 : Int × (Y1 × Int)) (x316 : Int) : Le (wyx x315 x316).ev (wabz x315 x316).ev := by
  unfold wyx wabz
  try dsimp only
  repeat' first
    | with_reducible exact Le.refl _
    | with_reducible exact Le.f _
    | with_reducible refine Le.t ?_ ?_
    | with_reducible refine Le.g ?_
    | with_reducible refine Le.s (fun _ => ?_) (fun _ => ?_)
    | with_reducible refine Le.c ?_ (fun _ => ?_)
    | with_reducible assumption
    | with_reducible refine Le.bnd ?_
    | with_reducible intro _
theorem wbkj (x317 : Int × (Y1 × Int)) (x318 : Int) : Le (wyy x317 x318) (wakl x317 x318) := by
  unfold wyy wakl
  refine Le.it (fun v => ?_) _ _
  apply wbki
  all_goals assumption
theorem wcbz (x319 : Y1) : Le (wbkg x319).ev (T_zb x319).ev := by
  unfold wbkg T_zb
  try dsimp only
  repeat' first
    | with_reducible exact Le.refl _
    | with_reducible exact Le.f _
    | with_reducible refine Le.t ?_ ?_
    | with_reducible refine Le.g ?_
    | with_reducible refine Le.s (fun _ => ?_) (fun _ => ?_)
    | with_reducible refine Le.c ?_ (fun _ => ?_)
    | with_reducible assumption
    | with_reducible apply wbkj
    | with_reducible refine Le.bnd ?_
    | with_reducible intro _
theorem wcca (x320 : Y1) : Le (wbkh x320) (F_zb x320) := by
  unfold wbkh F_zb
  apply wcbz
  all_goals assumption
theorem wbqu (x321 : Y1) (x322 : Y1) : Le (wamt x321 x322).ev (wasn x321 x322).ev := by
  unfold wamt wasn
  try dsimp only
  repeat' first
    | with_reducible exact Le.refl _
    | with_reducible exact Le.f _
    | with_reducible refine Le.t ?_ ?_
    | with_reducible refine Le.g ?_
    | with_reducible refine Le.s (fun _ => ?_) (fun _ => ?_)
    | with_reducible refine Le.c ?_ (fun _ => ?_)
    | with_reducible assumption
    | with_reducible apply wbqr
    | with_reducible apply wbqt
    | with_reducible apply wcca
    | with_reducible refine Le.bnd ?_
    | with_reducible intro _
theorem wbqv (x323 : Y1) (x324 : Y1) : Le (wamu x323 x324) (waso x323 x324) := by
  unfold wamu waso
  apply wbqu
  all_goals assumption
theorem waut (x325 : Int) (x326 : Int × Y2) : Le (wsv x325 x326).ev (wri x325 x326).ev := by
  unfold wsv wri
  try dsimp only
  repeat' first
    | with_reducible exact Le.refl _
    | with_reducible exact Le.f _
    | with_reducible refine Le.t ?_ ?_
    | with_reducible refine Le.g ?_
    | with_reducible refine Le.s (fun _ => ?_) (fun _ => ?_)
    | with_reducible refine Le.c ?_ (fun _ => ?_)
    | with_reducible assumption
    | with_reducible apply waxe
    | with_reducible refine Le.bnd ?_
    | with_reducible intro _
theorem wauu (x327 : Int) (x328 : Int × Y2) : Le (wsw x327 x328) (wyo x327 x328) := by
  unfold wsw wyo
  refine Le.it (fun v => ?_) _ _
  apply waut
  all_goals assumption
theorem wbqw (x329 : Int) : Le (wamv x329).ev (wasp x329).ev := by
  unfold wamv wasp
  try dsimp only
  repeat' first
    | with_reducible exact Le.refl _
    | with_reducible exact Le.f _
    | with_reducible refine Le.t ?_ ?_
    | with_reducible refine Le.g ?_
    | with_reducible refine Le.s (fun _ => ?_) (fun _ => ?_)
    | with_reducible refine Le.c ?_ (fun _ => ?_)
    | with_reducible assumption
    | with_reducible apply wauu
    | with_reducible apply wbqq
    | with_reducible apply wbqv
    | with_reducible refine Le.bnd ?_
    | with_reducible intro _
theorem wbqx (x330 : Int) : Le (wamw x330) (waeu x330) := by
  unfold wamw waeu
  apply wbqw
  all_goals assumption
end Go.Proofs.YtnagpmhaddfgmaaGreat
