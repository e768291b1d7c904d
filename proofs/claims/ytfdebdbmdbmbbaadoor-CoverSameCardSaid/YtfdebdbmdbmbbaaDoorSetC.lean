/- cover.Union, Meet, Minus, Within: by contract. -/
import Derived.Test.YtfdebdbmdbmbbaaDoorBoth
set_option linter.unusedSimpArgs false
set_option linter.unusedVariables false
namespace Go.Proofs.YtfdebdbmdbmbbaaDoor
open Go.RowKit Go.Shelf

section
variable (xs ys : List Pfx) (A B : Option Addr) (c d n m : Nat) (w : World)
/-- Behind the boxes of the two sets. -/
def boxed2 (w : World) (u v : Value) : World := (w.alloc (.cells #[u] 22)).alloc (.cells #[v] 22)
theorem boxed2_below (u v : Value) : Below w.heap.size w (boxed2 w u v) := ((Below.refl _ _).alloc (Nat.le_refl _) _).alloc (by simp) _
theorem boxed2_c1 (u v : Value) : (boxed2 w u v).cell? ⟨w.heap.size, 0, none⟩ = some u := by unfold boxed2; simp [go_sem]
theorem boxed2_c2 (u v : Value) : (boxed2 w u v).cell? ⟨w.heap.size + 1, 0, none⟩ = some v := by unfold boxed2; simp [go_sem]
theorem boxed2_size (u v : Value) : (boxed2 w u v).heap.size = w.heap.size + 2 := by unfold boxed2; simp

theorem meet1f_any (p q : Value) (W : World) : Calls Tryd.prog 17 #[p, q] W fun e W' => e = .returned (.func (.func 18) #[] #[p, q]) ∧ W = W' := by
  go_enter Tryd.func17, Tryd.ntmps17
  go_wp2
  go_ret
  exact ⟨rfl, rfl⟩
theorem minus1f_any (p q : Value) (W : World) : Calls Tryd.prog 20 #[p, q] W fun e W' => e = .returned (.func (.func 21) #[] #[p, q]) ∧ W = W' := by
  go_enter Tryd.func20, Tryd.ntmps20
  go_wp2
  go_ret
  exact ⟨rfl, rfl⟩

variable {xs ys A B c d n m w}
variable (hn : n = xs.length) (hm : m = ys.length) (hgl : Glob w) (hx : Canon xs) (hy : Canon ys) (hl : n ≤ 300) (hl2 : m ≤ 300) (hs : SlP w w.heap.size A xs) (hs2 : SlP w w.heap.size B ys) (hA : A = none → c = 0) (hB : B = none → d = 0)
include hn hm hgl hx hy hl hl2 hs hs2
omit hx hy in
theorem meet_does : Does 17 #[.pointer (some ⟨w.heap.size, 0, none⟩), .pointer (some ⟨w.heap.size + 1, 0, none⟩)] (meetL xs ys) (boxed2 w (.slice A n c) (.slice B m d)) := by
  refine ⟨enters_of Tryd.func17 (by kernel_rfl) rfl, fun W hW => (meet1f_any _ _ W).mono ?_⟩
  rintro e W' ⟨rfl, rfl⟩
  have hb := (boxed2_below w (.slice A n c) (.slice B m d)).trans (hW.mono (boxed2_below w _ _).size)
  have hsz := hW.size
  rw [boxed2_size] at hsz
  exact ⟨_, _, rfl, Below.refl _ _, enters_of Tryd.func18 (by kernel_rfl) rfl,
    meet_stops' 2 (by omega) w.heap.size (w.heap.size + 1) n c m d A B xs ys hn hm (by omega) (by omega) W _ (hgl.below hb) ((hW.cell (p := ⟨w.heap.size, 0, none⟩) (by rw [boxed2_size]; simp)).trans (boxed2_c1 _ _ _)) ((hW.cell (p := ⟨w.heap.size + 1, 0, none⟩) (by rw [boxed2_size]; simp)).trans (boxed2_c2 _ _ _)) ((hs.below hb (Nat.le_refl _)).more hb.size) ((hs2.below hb (Nat.le_refl _)).more hb.size)⟩
theorem minus_does : Does 20 #[.pointer (some ⟨w.heap.size, 0, none⟩), .pointer (some ⟨w.heap.size + 1, 0, none⟩)] (minusL xs ys) (boxed2 w (.slice A n c) (.slice B m d)) := by
  refine ⟨enters_of Tryd.func20 (by kernel_rfl) rfl, fun W hW => (minus1f_any _ _ W).mono ?_⟩
  rintro e W' ⟨rfl, rfl⟩
  have hb := (boxed2_below w (.slice A n c) (.slice B m d)).trans (hW.mono (boxed2_below w _ _).size)
  have hsz := hW.size
  rw [boxed2_size] at hsz
  exact ⟨_, _, rfl, Below.refl _ _, enters_of Tryd.func21 (by kernel_rfl) rfl,
    minus_stops 2 w.heap.size (w.heap.size + 1) n c m d A B xs ys hn hm (by omega) (by omega) hx.ok hy.ok W _ (hgl.below hb) ((hW.cell (p := ⟨w.heap.size, 0, none⟩) (by rw [boxed2_size]; simp)).trans (boxed2_c1 _ _ _)) ((hW.cell (p := ⟨w.heap.size + 1, 0, none⟩) (by rw [boxed2_size]; simp)).trans (boxed2_c2 _ _ _)) ((hs.below hb (Nat.le_refl _)).more hb.size) ((hs2.below hb (Nat.le_refl _)).more hb.size)⟩
include hA hB
set_option maxRecDepth 100000 in
set_option maxHeartbeats 1000000 in
theorem union1f_any (W : World) (hW : Below (boxed2 w (.slice A n c) (.slice B m d)).heap.size (boxed2 w (.slice A n c) (.slice B m d)) W) :
    Calls Tryd.prog 25 #[.pointer (some ⟨w.heap.size, 0, none⟩), .pointer (some ⟨w.heap.size + 1, 0, none⟩)] W fun e W' => ∃ A' m' c' W1, e = .returned (.func (.func 37) #[] #[.pointer (some ⟨W1.heap.size, 0, none⟩)]) ∧
      m' = (oneL (xs ++ ys)).length ∧ SlP W1 W1.heap.size A' (oneL (xs ++ ys)) ∧ Below W.heap.size W W1 ∧ W' = W1.alloc (.cells #[.slice A' m' c'] 22) := by
  have hb := (boxed2_below w (.slice A n c) (.slice B m d)).trans (hW.mono (boxed2_below w _ _).size)
  have hsz := hW.size
  rw [boxed2_size] at hsz
  have h1 := (hW.cell (p := ⟨w.heap.size, 0, none⟩) (by rw [boxed2_size]; simp)).trans (boxed2_c1 w (.slice A n c) (.slice B m d))
  have h2 := (hW.cell (p := ⟨w.heap.size + 1, 0, none⟩) (by rw [boxed2_size]; simp)).trans (boxed2_c2 w (.slice A n c) (.slice B m d))
  have hbW : Below w.heap.size w (W.alloc (.cells #[.slice A n c, .slice B m d] 22)) := hb.alloc (by omega) _
  have co := one2_any xs ys A B n m c d W.heap.size 2 (W.alloc (.cells #[.slice A n c, .slice B m d] 22)) hn hm (hgl.below hbW) (by simp [go_sem]) (by simp [go_sem]) ((hs.below hbW (Nat.le_refl _)).more hbW.size) ((hs2.below hbW (Nat.le_refl _)).more hbW.size) hA hB (by omega) (fun p hp => bitsOk_of_ok p ((List.mem_append.1 hp).elim (hx.ok p) (hy.ok p)))
  have Hco := Lib.hid co
  clear co hbW hb hW hn hm hgl hx hy hs hs2 hA hB
  go_enter Tryd.func25, Tryd.ntmps25
  go_wp2_with fail
  refine Hco.out.mono ?_
  clear Hco
  rintro e w2 ⟨A', m', c', rfl, hm', hs', hb', _⟩
  have Hp := Lib.hid (And.intro hm' (And.intro hs' (((Below.refl W.heap.size W).alloc (Nat.le_refl _) (.cells #[.slice A n c, .slice B m d] 22)).trans (hb'.mono (by simp)))))
  clear hm' hs' hb'
  go_wp2_with fail
  refine ((callsIn_wide (n := 1)).1 (values_in Fence.wide 1 trivial rfl A' m' c' w2)).mono ?_
  rintro e w3 ⟨rfl, rfl⟩
  go_wp2
  go_ret
  exact ⟨A', m', c', w2, rfl, Hp.out.1, Hp.out.2.1, Hp.out.2.2, rfl⟩
theorem union_does : Does 25 #[.pointer (some ⟨w.heap.size, 0, none⟩), .pointer (some ⟨w.heap.size + 1, 0, none⟩)] (oneL (xs ++ ys)) (boxed2 w (.slice A n c) (.slice B m d)) := by
  refine ⟨enters_of Tryd.func25 (by kernel_rfl) rfl, fun W hW => (union1f_any hn hm hgl hx hy hl hl2 hs hs2 hA hB W hW).mono ?_⟩
  rintro e W' ⟨A', m', c', W1, rfl, h1, h2, h3, rfl⟩
  have h4 : Below W1.heap.size W1 (W1.alloc (.cells #[.slice A' m' c'] 22)) := (Below.refl _ _).alloc (Nat.le_refl _) _
  have h5 : Below W1.heap.size W1 ((W1.alloc (.cells #[.slice A' m' c'] 22)).alloc (.cells #[.slice none 0 0] 22)) := h4.alloc (by simp) _
  have hlen := oneL_len (xs ++ ys)
  rw [List.length_append] at hlen
  refine ⟨_, _, rfl, h3.alloc h3.size _, enters_of Tryd.func37 (by kernel_rfl) rfl, ?_⟩
  rw [← h1]
  refine SeqStopsK.strong (values_stops Fence.wide 2 trivial rfl (by omega) W1.heap.size (W1.alloc (.cells #[.slice A' m' c'] 22)).heap.size m' c' A' _ h1 (by omega) _ (by simp; omega) (by simp) (by simp [go_sem]) ((h2.below h5 (Nat.le_refl _)).more (by simp))) fun W W' h => h.1

set_option maxRecDepth 100000 in
set_option maxHeartbeats 1000000 in
theorem meet_any : Calls Tryd.prog 7 #[.slice A n c, .slice B m d] w (bothPost (meetL xs ys) w) := by
  have hb := boxed2_below w (.slice A n c) (.slice B m d)
  have hlen := meetL_len xs ys
  have hlm : xs.length * ys.length ≤ 300 * 300 := Nat.mul_le_mul (by omega) (by omega)
  have cb := both_any xs ys A B c d n m 17 _ (meetL xs ys) _ hn hm (hgl.below hb) hx hy hl hl2 ((hs.below hb (Nat.le_refl _)).more hb.size) ((hs2.below hb (Nat.le_refl _)).more hb.size) hA hB (by omega) (meetL_ok hx.ok hy.ok) (meet_does hn hm hgl hl hl2 hs hs2)
  have Hcb := Lib.hid cb
  have Hb := Lib.hid hb
  clear cb hn hm hgl hx hy hs hs2 hA hB hlen hlm hb
  go_enter Tryd.func7, Tryd.ntmps7
  go_wp2_with fail
  refine Hcb.out.mono ?_
  clear Hcb
  rintro e w2 (⟨h1, rfl, h2⟩ | ⟨h1, A', m', c', rfl, h3⟩)
  · go_wp2
    go_ret2
    exact .inl ⟨h1, rfl, Hb.out.trans (h2.mono Hb.out.size)⟩
  · have Hp := Lib.hid h3
    clear h3
    go_wp2
    go_ret2
    exact .inr ⟨h1, A', m', c', rfl, Hp.out.1, Hp.out.2.1, Hb.out.trans (Hp.out.2.2.1.mono Hb.out.size), Hp.out.2.2.2⟩
set_option maxRecDepth 100000 in
set_option maxHeartbeats 1000000 in
theorem minus_any (hlen : (minusL xs ys).length ≤ 500000) : Calls Tryd.prog 8 #[.slice A n c, .slice B m d] w (bothPost (minusL xs ys) w) := by
  have hb := boxed2_below w (.slice A n c) (.slice B m d)
  have cb := both_any xs ys A B c d n m 20 _ (minusL xs ys) _ hn hm (hgl.below hb) hx hy hl hl2 ((hs.below hb (Nat.le_refl _)).more hb.size) ((hs2.below hb (Nat.le_refl _)).more hb.size) hA hB hlen (minusL_ok hx.ok hy.ok).1 (minus_does hn hm hgl hx hy hl hl2 hs hs2)
  have Hcb := Lib.hid cb
  have Hb := Lib.hid hb
  clear cb hn hm hgl hx hy hs hs2 hA hB hlen hb
  go_enter Tryd.func8, Tryd.ntmps8
  go_wp2_with fail
  refine Hcb.out.mono ?_
  clear Hcb
  rintro e w2 (⟨h1, rfl, h2⟩ | ⟨h1, A', m', c', rfl, h3⟩)
  · go_wp2
    go_ret2
    exact .inl ⟨h1, rfl, Hb.out.trans (h2.mono Hb.out.size)⟩
  · have Hp := Lib.hid h3
    clear h3
    go_wp2
    go_ret2
    exact .inr ⟨h1, A', m', c', rfl, Hp.out.1, Hp.out.2.1, Hb.out.trans (Hp.out.2.2.1.mono Hb.out.size), Hp.out.2.2.2⟩
set_option maxRecDepth 100000 in
set_option maxHeartbeats 1000000 in
theorem union_any : Calls Tryd.prog 10 #[.slice A n c, .slice B m d] w (bothPost (oneL (xs ++ ys)) w) := by
  have hb := boxed2_below w (.slice A n c) (.slice B m d)
  have hlen := oneL_len (xs ++ ys)
  rw [List.length_append] at hlen
  have cb := both_any xs ys A B c d n m 25 _ (oneL (xs ++ ys)) _ hn hm (hgl.below hb) hx hy hl hl2 ((hs.below hb (Nat.le_refl _)).more hb.size) ((hs2.below hb (Nat.le_refl _)).more hb.size) hA hB (by omega) (one_ok (xs ++ ys) fun p hp => (List.mem_append.1 hp).elim (hx.ok p) (hy.ok p)).1.ok (union_does hn hm hgl hx hy hl hl2 hs hs2 hA hB)
  have Hcb := Lib.hid cb
  have Hb := Lib.hid hb
  clear cb hn hm hgl hx hy hs hs2 hA hB hlen hb
  go_enter Tryd.func10, Tryd.ntmps10
  go_wp2_with fail
  refine Hcb.out.mono ?_
  clear Hcb
  rintro e w2 (⟨h1, rfl, h2⟩ | ⟨h1, A', m', c', rfl, h3⟩)
  · go_wp2
    go_ret2
    exact .inl ⟨h1, rfl, Hb.out.trans (h2.mono Hb.out.size)⟩
  · have Hp := Lib.hid h3
    clear h3
    go_wp2
    go_ret2
    exact .inr ⟨h1, A', m', c', rfl, Hp.out.1, Hp.out.2.1, Hb.out.trans (Hp.out.2.2.1.mono Hb.out.size), Hp.out.2.2.2⟩
end
end Go.Proofs.YtfdebdbmdbmbbaaDoor
