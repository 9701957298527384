/-
  KeepingGroup: program and reference agree.
-/
import Derived.Test.YtjnfbemiondekaaP24
import Derived.Test.YtjnfbemiondekaaW
namespace Go.Proofs.Ytjnfbemiondekaa
open Ai
set_option linter.unusedSimpArgs false
set_option linter.unusedVariables false

def allM (f : Int) (l : Lat) : List Mot := (stableL f l).flatMap fun m => (cells l).map fun t => (m, t)

theorem spec_all_inner {l : Lat} (hl : isLat l = true) (ms : List Mat4) {i : Nat} (hi : i < ms.length) (s : List Mot) (hs : s.length ≤ 100000) :
    spec_l16All_l1 ms (cells l) s (i : Int) 0 = some (ms, cells l, s ++ (cells l).map (fun t => ((ms[i], t) : Mot)), (i : Int)) := by
  have hn := (cells_len' hl).2
  have hlen : ((cells l).map fun t => ((ms[i], t) : Mot)).length = (cells l).length := List.length_map ..
  have key := loop_filter (L := fun s k => spec_l16All_l1 ms (cells l) s (i : Int) k) ((cells l).map fun t => ((ms[i], t) : Mot)) (fun _ => true) s (fun k hk s' hs' => by
    have hk' : k < (cells l).length := by omega
    show spec_l16All_l1 ms (cells l) s' (i : Int) (k : Int) = _
    rw [List.getElem_map, spec_l16All_l1_eq, inb hi, inb hk', decide_eq_true (by omega), gd hi, gd hk', wnext hk' (by omega), decide_eq_true (by unfold LIM; simp only [List.length_singleton]; omega)]
    simp only [cond_true, Option.bind_fun_some]
    rfl)
  rw [key, hlen, List.filter_eq_self.2 (fun _ _ => rfl)]
  show spec_l16All_l1 _ _ _ _ _ = _
  rw [spec_l16All_l1_eq, decide_eq_false (by omega)]
  rfl

theorem spec_l16All_v {f : Int} (hf : f = 0 ∨ f = 1) {l : Lat} (hl : isLat l = true) : spec_l16All f l = some (allM f l) := by
  have hn := (cells_len' hl).2
  have hsl := stable_len f l
  rw [spec_l16All_eq, spec_l04Stable_v hf hl, spec_l03Cells_v _ hl]
  have key := loop_flat (L := fun s k => spec_l16All_l0 (stableL f l) (cells l) s k) (stableL f l) (fun m => (cells l).map fun t => ((m, t) : Mot)) 64 (fun m _ => by rw [List.length_map]; exact hn) (fun k hk s hs => by
    show spec_l16All_l0 (stableL f l) (cells l) s (k : Int) = _
    rw [spec_l16All_l0_eq, decide_eq_true (by omega), spec_all_inner hl (stableL f l) hk s (by omega)]
    simp only [cond_true, Option.bind_some, Option.bind_fun_some]
    rw [wnext hk (by omega)])
  simp only [Option.bind_some]
  rw [key]
  show Option.bind (spec_l16All_l0 _ _ _ _) _ = _
  rw [spec_l16All_l0_eq, decide_eq_false (by omega)]
  rfl

theorem KeepingGroup_agree (p : Pat) (h : p.2.2.length ≤ 1048576) : ∃ r, spec_KeepingGroup p = some r ∧ impl_KeepingGroup p = some r ∧ r.1.length ≤ 1048576 := by
  rw [spec_KeepingGroup_eq, impl_KeepingGroup_eq, spec_IsPattern_v p (leM h), impl_IsPattern_v p (leM h)]
  simp only [Option.bind_some]
  cases hp : isPat p
  · exact ⟨_, rfl, rfl, by simp⟩
  · have hl := (isPat_iff.1 hp).2.1
    have hf := isFrame_iff.1 (isPat_iff.1 hp).1
    have hn := (cells_len' hl).2
    have hal : (allM p.1 p.2.1).length ≤ 5184 := by
      have h1 := flat_len_le (fun m => (cells p.2.1).map fun t => ((m, t) : Mot)) 64 (stableL p.1 p.2.1) (fun m _ => by rw [List.length_map]; exact hn)
      have h2 := stable_len p.1 p.2.1
      unfold allM
      omega
    simp only [cond_true, Option.bind_some, impl_Pattern_groupOf_v _ hp, spec_l16All_v hf hl]
    have key := loop_filter (L := fun s k => spec_KeepingGroup_l0 (allM p.1 p.2.1) s k p.1 p.2.1.1 p.2.1.2.1 p.2.1.2.2 p.2.2) (allM p.1 p.2.1) (keepsB p) [] (fun k hk s hs => by
      show spec_KeepingGroup_l0 (allM p.1 p.2.1) s (k : Int) p.1 p.2.1.1 p.2.1.2.1 p.2.1.2.2 p.2.2 = _
      have hmem : (allM p.1 p.2.1)[k] ∈ allM p.1 p.2.1 := List.getElem_mem hk
      have hk2 : ∀ v ∈ cells p.2.1, Sm (wap (allM p.1 p.2.1)[k] v) := by
        unfold allM at hmem
        obtain ⟨m, hm, ht⟩ := List.mem_flatMap.1 hmem
        obtain ⟨t, ht1, ht2⟩ := List.mem_map.1 ht
        have := keeps_sm hp (stable_pm hf hm) (cells_ss hl ht1)
        rw [ht2] at this
        exact this
      rw [spec_KeepingGroup_l0_eq, inb hk, decide_eq_true (by omega), gd hk]
      simp only [cond_true, Option.bind_fun_some]
      have e1 : spec_l09Keeps (p.1, (p.2.1.1, p.2.1.2.1, p.2.1.2.2), p.2.2) (((allM p.1 p.2.1)[k].1.1, (allM p.1 p.2.1)[k].1.2.1, (allM p.1 p.2.1)[k].1.2.2), (allM p.1 p.2.1)[k].2) = some (keepsB p (allM p.1 p.2.1)[k]) := spec_l09Keeps_v p _ hp hk2
      rw [e1, wnext hk (by omega), decide_eq_true (by unfold LIM; simp only [List.length_nil, List.length_singleton] at hs ⊢; omega)]
      simp only [Option.bind_some]
      cases keepsB p (allM p.1 p.2.1)[k] <;> rfl)
    rw [key]
    have hg : (allM p.1 p.2.1).filter (keepsB p) = groupG p := by
      unfold allM groupG keptM
      rw [List.filter_flatMap]
    have hend : spec_KeepingGroup_l0 (allM p.1 p.2.1) ([] ++ (allM p.1 p.2.1).filter (keepsB p)) ((allM p.1 p.2.1).length : Int) p.1 p.2.1.1 p.2.1.2.1 p.2.1.2.2 p.2.2 = some (groupG p) := by
      rw [spec_KeepingGroup_l0_eq, decide_eq_false (by omega), List.nil_append, hg]
      rfl
    rw [hend]
    exact ⟨_, rfl, rfl, Nat.le_trans (group_len hp) (by omega)⟩

theorem FnExactKeepingGroup_true (p : Pat) (h : wfE (.pair (.i .i64) (.pair (.pair (.i .i64) (.pair (.i .i64) (.i .i64))) (.list (.i .i64)))) p) : laws_FnExactKeepingGroup p = some true := by
  rw [laws_FnExactKeepingGroup_eq, laws_szPattern_v p _ h.2.2.1 (by omega) (by omega)]
  simp only [Option.bind_some]
  rw [szl_neg (by omega)]
  by_cases hc : (p.2.2.length : Int) ≤ 1048576
  · have hc' : p.2.2.length ≤ 1048576 := by omega
    obtain ⟨r, hs, hi, hl⟩ := KeepingGroup_agree p hc'
    obtain ⟨m, zs, d1, m1, _⟩ := laws_markPattern_m ((p.1, p.2.1), p.2.2) hc'
    obtain ⟨m', ys, d2, m2, m3⟩ := laws_markMotionS_r_m r.1 hl
    simp only [decide_eq_true hc, Bool.not_true, cond_false, laws_toPattern_v p hc', Option.bind_some, hs, hi, laws_eqPattern_v _ _ (leM hc'), laws_eqMotionS_v _ _ (leM hl), m1, m2, m3, d1, d2, decide_true, cond_true]
  · simp [hc]

end Go.Proofs.Ytjnfbemiondekaa
