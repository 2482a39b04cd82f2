/-
 The law of the fronts' sets: the program's lists are the reference's, and in memory of their own, each in its own.
-/
import Derived.Test.YtnagpmhaddfgmaaP68
import Derived.Test.YtnagpmhaddfgmaaPM
namespace Go.Proofs.Ytnagpmhaddfgmaa
theorem wabb {o : List Int} {ds : List (List Int)} (a b : Int) : wsa ((whu o ds a b).map (·.2)) := by
 have hl := waba (o := o) (ds := ds) (a := a) (b := b)
 refine ⟨by rw [List.length_map]; omega, fun r hr => ?_⟩
 obtain ⟨q, hq, rfl⟩ := List.mem_map.1 hr
 unfold whu at hq
 cases hb : wek o ds a b with
 | false => rw [hb] at hq; cases hq
 | true =>
  rw [hb] at hq
  have hf := wfx hb
  obtain ⟨h1, h7⟩ := walz hf
  exact (wgr h7 (waly h1 h7) (wvf hq).1).2.2
theorem wqm (o : List Int) (ds : List (List Int)) (a b : Int) (ho : Fit tL o) (hd : Fit tLL ds) (_ : Fit tI a) (_ : Fit tI b) : wawr o ds a b = some true := by
 unfold wawr wawq
 obtain ⟨r, e1, k1, k2⟩ := waat (fit1 ho) (fit2 hd) (b := 1048576) (by omega) (by omega)
 simp (disch := omega) only [EV, e1]
 by_cases hr : r < 0
 ·simp (disch := omega) only [EV, hr]
 ·obtain ⟨h1, h2⟩ := k2 (by omega)
  have hlow := wabb (o := o) (ds := ds) a b
  obtain ⟨m, f1, f2, f3, f4⟩ := wsi h1 h2 (k := 1) (by omega) (by omega)
  have hn1 : ¬ m < 0 := by omega
  have hn2 : ¬ tot 1 ((whu o ds a b).map (·.2)) < 0 := by
   have := (wnb (k := 1) hlow.2).1
   omega
  simp (disch := omega) only [EV, hr, waau h1 h2, wnq h1 h2 a b, wnr h1 h2 a b, woo hlow, waav h1 h2, beq_self_eq_true, bne_self_eq_false, f1, hn1, wjl hlow (k := 1) (by omega) (by omega), wsh hlow (k := 1) (by omega) (by omega), hn2]
end Go.Proofs.Ytnagpmhaddfgmaa
