/-
  The library's decimal numerals, by the shelf's contract: they read a table of the library's.
-/
import Derived.Test.YtakbhfnndcnopaaDoorB31
import Derived.Test.YtakbhfnndcnopaaDoorShelf
namespace Go.Proofs.YtakbhfnndcnopaaDoor
open Go.RowKit (Below)
open Go.Proofs.Tryd

/-- The block of the powers of ten, and what it holds. -/
instance doorTabs : Tabs := ⟨[(1, Lib.pow10Tab.map fun z => Value.int .u64 z)]⟩

theorem pow_global : prog.globalNamed "internal/strconv.uint64pow10" = some 1 := by kernel_rfl
theorem pow_tab {w : World} {lo : Nat → Prop} (h : TabsOK w lo) : Lib.TabIs prog w "internal/strconv.uint64pow10" .u64 Lib.pow10Tab := by
  obtain ⟨_, t, y, h2⟩ := h _ (List.mem_singleton.2 rfl)
  unfold Lib.TabIs World.var?
  rw [pow_global]
  simp only [Option.bind_some] at h2 ⊢
  rw [h2]

def inI64 (n : Int) : Bool := decide (-9223372036854775808 ≤ n) && decide (n ≤ 9223372036854775807)
def itoaF (n : Int) : Option (List UInt8) := if inI64 n then some (Lib.itoa n) else none
def fdItoa : FD where
  A := .cons (.dat (.int .i64)) .nil
  ins := []
  lend := []
  R := List UInt8
  F := fun x => itoaF x.1.1
  emb := fun r => ([.dat .str r], [])

theorem hand_itoa : FDok prog (56, fdItoa) := by
  intro x r hr w X μi vals hX hm hins hsz hv
  obtain ⟨⟨n, u⟩, v⟩ := x
  have hr' : itoaF n = some r := hr
  unfold itoaF at hr'
  split at hr'
  next hin =>
    cases hr'
    unfold inI64 at hin
    simp only [Bool.and_eq_true, decide_eq_true_eq] at hin
    obtain ⟨x, rfl, h1⟩ := args1 (v := .dat (.int .i64) n) hsz hv
    rw [int_of h1]
    have hb : f56.body.isSome = true := by kernel_rfl
    obtain ⟨c, hc⟩ := Option.isSome_iff_exists.1 hb
    refine .inl ⟨run_enter func56 (by kernel_rfl) hc _ w, (Tryd.strconv_Itoa n hin.1 hin.2 w (pow_tab hm.tab)).mono fun e w' ⟨he, k, os, hw⟩ => ⟨_, he, ?_⟩⟩
    subst hw
    refine res_dat rfl (fun _ => rfl) ⟨rfl, rfl, rfl, by rw [Sort.size_grow]; exact Nat.le_add_right _ _, fun b hb => ?_⟩ hX hm.hlo hm.tab
    have hlt := hm.hlo b hb
    show (w.heap ++ os)[b]? = w.heap[b]?
    exact Array.getElem?_append_left hlt
  next => cases hr'
end Go.Proofs.YtakbhfnndcnopaaDoor
