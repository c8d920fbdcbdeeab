/-
  BitsForm: the walk.
-/
import Derived.Test.YtfnhbelaminhiaaBitsSh
namespace Go.Proofs.Ytfnhbelaminhiaa
open Go.RowKit Go.Bt

theorem cut_length {l t b : List UInt8} (h : Bt.cut l = some (t, b)) : t.length ≤ l.length ∧ b.length ≤ l.length := by
  have := text_cut l t b h
  rw [← this]
  unfold text
  simp
  omega
set_option maxRecDepth 100000 in
set_option maxHeartbeats 1000000 in
theorem bitsForm_any (l : List UInt8) (w : World) :
    Calls Try.prog 3 #[.string (ofL l)] w fun e w' => e = .returned (.bool true) ∧ Ext w w' := by
  have hE := Ext.refl w
  by_cases hlen : 300 < l.length
  · go_enter Try.func3, Try.ntmps3
    go_wp2_with (go_at_call 14; with_reducible refine (shifted_any _).ext hE (fun w1 hE => ?_))
    go_ret
    exact ⟨rfl, hE⟩
  · cases hr : Bt.read l with
    | none =>
      have Hr := Lib.hid hr
      cases hc : Bt.cut l with
      | none =>
        have Hc := Lib.hid hc
        clear hr hc
        go_enter Try.func3, Try.ntmps3
        go_wp2_with (first
          | (go_at_call 14; with_reducible refine (shifted_any _).ext hE (fun w1 hE => ?_))
          | (go_at_call 15; with_reducible refine (read_none Hr.out _ (by omega)).ext hE (fun w1 hE => ?_))
          | (go_at_call 16; with_reducible refine (cut_none Hc.out _ (by omega)).ext hE (fun w1 hE => ?_)))
        go_ret
        exact ⟨rfl, hE⟩
      | some p => simp [Bt.cut, hr] at hc
    | some p =>
      obtain ⟨n, r⟩ := p
      have Hr := Lib.hid hr
      obtain ⟨hvr, hn⟩ := var_read l n r hr
      have hvl := (var_length n).2
      have hrl := (read_length hr).1
      have hveq : (var n ++ r == l) = true := by rw [← hvr]; simp
      cases hc : Bt.cut l with
      | none =>
        have Hc := Lib.hid hc
        have Hn := Lib.hid hn
        clear hr hc hvr hn
        go_enter Try.func3, Try.ntmps3
        go_wp2_with (first
          | (go_at_call 14; with_reducible refine (shifted_any _).ext hE (fun w1 hE => ?_))
          | (go_at_call 15; with_reducible refine (read_some Hr.out _ (by omega)).ext hE (fun w1 hE => ?_))
          | (go_at_call 17; with_reducible refine (var_any n _ Hn.out).ext hE (fun w1 hE => ?_))
          | (go_at_call 16; with_reducible refine (cut_none Hc.out _ (by omega)).ext hE (fun w1 hE => ?_)))
        go_ret
        exact ⟨rfl, hE⟩
      | some q =>
        obtain ⟨t, b⟩ := q
        have Hc := Lib.hid hc
        have Hn := Lib.hid hn
        have htb := text_cut l t b hc
        have hteq : (text t ++ b == l) = true := by rw [htb]; simp
        have htl : (text t).length ≤ t.length + 10 := by unfold text; rw [List.length_append]; have := (var_length t.length).2; omega
        obtain ⟨hcl1, hcl2⟩ := cut_length hc
        clear hr hc hvr hn htb
        go_enter Try.func3, Try.ntmps3
        go_wp2_with (first
          | (go_at_call 14; with_reducible refine (shifted_any _).ext hE (fun w1 hE => ?_))
          | (go_at_call 15; with_reducible refine (read_some Hr.out _ (by omega)).ext hE (fun w1 hE => ?_))
          | (go_at_call 17; with_reducible refine (var_any n _ Hn.out).ext hE (fun w1 hE => ?_))
          | (go_at_call 18; with_reducible refine (text_any t _ (by omega)).ext hE (fun w1 hE => ?_))
          | (go_at_call 16; with_reducible refine (cut_some Hc.out _ (by omega)).ext hE (fun w1 hE => ?_)))
        go_ret
        exact ⟨rfl, hE⟩
theorem bitsForm_walk (a0 : ByteArray) (_w0 : a0.size ≤ maxLen) (w : World) :
    Calls Try.prog 3 #[.string a0] w fun e w' => e = .returned (.bool true) ∧ Ext w w' := by
  rw [← ofL_data a0]
  exact bitsForm_any _ w
end Go.Proofs.Ytfnhbelaminhiaa
