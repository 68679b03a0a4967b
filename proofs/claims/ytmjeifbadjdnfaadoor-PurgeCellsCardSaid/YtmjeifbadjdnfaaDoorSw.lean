/- Contract of the library's symMergeCmpFunc at cells, over any program that has its body. Conditions: two parts that are sorted, neither empty. -/
import Derived.Test.YtmjeifbadjdnfaaDoorSq
set_option linter.unusedVariables false
set_option linter.unusedSimpArgs false
set_option maxRecDepth 1000000
namespace Go.Proofs.YtmjeifbadjdnfaaDoor
open Go.RowKit Go.Sort Go.Lib

section
variable {P : Program} {α : Type} {E : El α}
def SymIH (P : Program) (E : El α) (gf : Nat) (cf : α → α → Int) (N : Nat) : Prop := ∀ (a m b g c base : Nat) (l : List α) (w : World), b - a ≤ N → OwnX E w base (.slice (some ⟨g, 0, none⟩) l.length c) l → a < m → m < b → b ≤ l.length → l.length < 4611686018427387904 →
  SrtOn (fun x y => decide (cf x y < 0)) l a m → SrtOn (fun x y => decide (cf x y < 0)) l m b →
  Calls P 133 #[.slice (some ⟨g, 0, none⟩) l.length c, .int .i64 a, .int .i64 m, .int .i64 b, .func (.func gf) #[] #[]] w (SwapPost E w base g c l (MG (fun x y => decide (cf x y < 0)) a b l))

set_option maxHeartbeats 4000000 in
theorem symN_gen (H : SoLay P E) {gf : Nat} {cf : α → α → Int} (C : SoCmp P E gf cf) (a m b g c base N : Nat) (l : List α) (w : World) (IH : SymIH P E gf cf N) (hN : b - a ≤ N + 1) (HO : OwnX E w base (.slice (some ⟨g, 0, none⟩) l.length c) l) (h1 : a + 1 < m) (h2 : m + 1 < b) (hb : b ≤ l.length) (hl : l.length < 4611686018427387904)
    (hA : SrtOn (fun x y => decide (cf x y < 0)) l a m) (hB : SrtOn (fun x y => decide (cf x y < 0)) l m b) :
    Calls P 133 #[.slice (some ⟨g, 0, none⟩) l.length c, .int .i64 a, .int .i64 m, .int .i64 b, .func (.func gf) #[] #[]] w (SwapPost E w base g c l (MG (fun x y => decide (cf x y < 0)) a b l)) := by
  have mixed := H.mixed; have t0 := H.t0; have a0 := H.a0; have z0 := H.z0; have v0 := H.v0; have t3 := H.t3; have a3 := H.a3; have z3 := H.z3; have v3 := H.v3; have t4 := H.t4; have a4 := H.a4; have z4 := H.z4; have v4 := H.v4; have tS := H.tS; have aS := H.aS; have zS := H.zS; have vS := H.vS; have tf := H.tf; have af := H.af; have zf := H.zf; have vf := H.vf; have aE := H.aE; have zE := H.zE
  have tu := H.tu; have au := H.au; have zu := H.zu; have vu := H.vu
  have uS := run_underlying H.tS; have u3 := run_underlying H.t3; have uu := run_underlying H.tu
  have F3 := H.f3
  have eg := C.eg
  have eg2 : ∀ args w, (callFunc 144 args).run P w = .ok (.enter 144 args) w := enters_of H.f2 (by kernel_rfl) rfl
  have eg3 : ∀ args w, (callFunc 133 args).run P w = .ok (.enter 133 args) w := enters_of H.f3 (by kernel_rfl) rfl
  have HO0 := Lib.hid HO
  have CC := Lib.hid C
  have IH' := Lib.hid IH
  have ROT := Lib.hid (fun (s e : Nat) (W : World) (hO : OwnX E W base (.slice (some ⟨g, 0, none⟩) l.length c) l) (x1 : s < m) (x2 : m < e) (x3 : e ≤ l.length) => rot_gen H s m e g c base l W (.func (.func gf) #[] #[]) hO x1 x2 x3 hl)
  obtain ⟨len, hlen⟩ : ∃ len, l.length = len := ⟨_, rfl⟩
  have HA := Lib.hid hA; have HB' := Lib.hid hB
  rw [hlen] at hb hl HO0 ROT ⊢
  have HLEN := Lib.hid hlen
  obtain ⟨d1, hd1⟩ : ∃ d1, m - a = d1 := ⟨_, rfl⟩
  obtain ⟨d2, hd2⟩ : ∃ d2, b - m = d2 := ⟨_, rfl⟩
  have e1 : (m : Int) - (a : Int) = (d1 : Int) := by omega
  have e2 : (b : Int) - (m : Int) = (d2 : Int) := by omega
  have n1 : ((d1 : Int) == 1) = false := by simp; omega
  have n2 : ((d2 : Int) == 1) = false := by simp; omega
  obtain ⟨ab, hab⟩ : ∃ ab, a + b = ab := ⟨_, rfl⟩
  obtain ⟨mid, hmid⟩ : ∃ mid, ab / 2 = mid := ⟨_, rfl⟩
  obtain ⟨n, hn⟩ : ∃ n, mid + m = n := ⟨_, rfl⟩
  obtain ⟨p, hp⟩ : ∃ p, n - 1 = p := ⟨_, rfl⟩
  have e3 : (a : Int) + (b : Int) = (ab : Int) := by omega
  have e4 : (ab : Int) / 2 = (mid : Int) := by omega
  have e5 : (mid : Int) + (m : Int) = (n : Int) := by omega
  have e6 : (n : Int) - 1 = (p : Int) := by omega
  have hm1 : a < mid := by omega
  have hm2 : mid < b := by omega
  have hm3 : mid = (a + b) / 2 := by omega
  have bab : ab ≤ 2 * len := by omega
  have bn : n ≤ 2 * len := by omega
  have bn1 : 1 ≤ n := by omega
  have HM := Lib.hid (And.intro hm3 (And.intro hn hp))
  have FA := Lib.hid (And.intro e1 (And.intro e2 (And.intro n1 (And.intro n2 (And.intro e3 (And.intro e4 (And.intro e5 e6)))))))
  obtain ⟨s0, r0, h0⟩ : ∃ s0 r0, (mid < m ∧ s0 = mid + m - b ∧ r0 = mid) ∨ (m ≤ mid ∧ s0 = a ∧ r0 = m) := by
    rcases Nat.lt_or_ge mid m with h | h
    · exact ⟨_, _, .inl ⟨h, rfl, rfl⟩⟩
    · exact ⟨_, _, .inr ⟨h, rfl, rfl⟩⟩
  have H0 := Lib.hid h0
  have sa : a ≤ s0 := by omega
  have sr : s0 ≤ r0 := by omega
  have rm : r0 ≤ m := by omega
  have rmid : r0 ≤ mid := by omega
  have sp : p < b + s0 := by omega
  have rp : m + r0 ≤ p + 1 := by omega
  clear HO hlen hA hB C IH hd1 hd2 hab hmid hn hp e1 e2 n1 n2 e3 e4 e5 e6 hm3 h0
  go_enter F3, Tryd.ntmps133
  obtain ⟨e1, e2, n1, n2, e3, e4, e5, e6⟩ := FA.out
  go_upto_if 140 with (fail)
  clear e1 e2 n1 n2 e3 e4 e5
  go_cut [20, 21] (fun s20 s21 wx => s20 = .int .i64 (s0 : Int) ∧ s21 = .int .i64 (r0 : Int) ∧ w = wx)
  case first =>
    rcases Nat.lt_or_ge mid m with hc | hc
    · have hz : (mid : Int) < (m : Int) := by omega
      have es : (n : Int) - (b : Int) = (s0 : Int) := by have := H0.out; have := HM.out; omega
      obtain rfl : r0 = mid := by have := H0.out; omega
      go_wp2_with fail
      go_meet
      case rel => exact ⟨rfl, rfl, rfl⟩
    · have hz : ¬ (mid : Int) < (m : Int) := by omega
      obtain rfl : s0 = a := by have := H0.out; omega
      obtain rfl : r0 = m := by have := H0.out; omega
      go_wp2_with fail
      go_meet
      case rel => exact ⟨rfl, rfl, rfl⟩
  case rest =>
    obtain ⟨rfl, rfl, rfl⟩ := hcut
    go_wp2
    clear e6
    go_loopw [20, 21] (fun vi vj wr => ∃ (i j : Nat), vi = .int .i64 (i : Int) ∧ vj = .int .i64 (j : Int) ∧ Hid (SymSt (fun x y => decide (cf x y < 0)) l p s0 r0 i j) ∧ Below w.heap.size w wr) (fun vi vj _ => (intOf vj - intOf vi).toNat)
    case atStart => exact ⟨s0, r0, rfl, rfl, Lib.hid ⟨Nat.le_refl _, sr, Nat.le_refl _, fun _ _ _ _ _ => by omega, fun _ _ _ _ _ => by omega⟩, Below.refl _ _⟩
    case round =>
      obtain ⟨i, j, rfl, rfl, ho, hbl⟩ := hrel
      have HB := Lib.hid hbl; clear hbl
      have hi1 := ho.out.b1; have hi2 := ho.out.b2; have hi3 := ho.out.b3
      by_cases hlt : i < j
      · have hz : (i : Int) < (j : Int) := by omega
        obtain ⟨s, hs⟩ : ∃ s, i + j = s := ⟨_, rfl⟩
        obtain ⟨h, hh⟩ : ∃ h, s / 2 = h := ⟨_, rfl⟩
        obtain ⟨q, hq⟩ : ∃ q, p - h = q := ⟨_, rfl⟩
        have es : (i : Int) + (j : Int) = (s : Int) := by omega
        have eh : (s : Int) / 2 = (h : Int) := by omega
        have eq : (p : Int) - (h : Int) = (q : Int) := by omega
        have ew : IntKind.i64.wrap ((p : Int) - (h : Int)) = (q : Int) := by rw [IntKind.wrap_i64]; omega
        have ks : s ≤ 2 * len := by omega
        have kh : i ≤ h ∧ h < j := by omega
        have kq : q < len := by omega
        have ew2 : IntKind.i64.wrap (q : Int) = (q : Int) := by rw [IntKind.wrap_i64]; omega
        clear hs hh
        obtain ⟨y, hy⟩ : ∃ y, l[q]? = some y := ⟨_, List.getElem?_eq_getElem (by rw [HLEN.out]; omega)⟩
        obtain ⟨x, hx⟩ : ∃ x, l[h]? = some x := ⟨_, List.getElem?_eq_getElem (by rw [HLEN.out]; omega)⟩
        obtain ⟨cx, ex⟩ : ∃ cx, cx = E.enc x := ⟨_, rfl⟩
        obtain ⟨cy, ey⟩ : ∃ cy, cy = E.enc y := ⟨_, rfl⟩
        have hO := HO0.out.below HB.out
        have lx := OwnX.lds (P := P) hO h x hx cx ex
        have ly := OwnX.lds (P := P) hO q y hy cy ey
        have q1 := Lib.hid (fun d os => CC.out.qc wr d os y x cy cx ey ex)
        have DN := Lib.hid (fun hl => ho.out.down CC.out.ord HA.out HB'.out sa rm rp sp kh.1 kh.2 hx (by rw [hq]; exact hy) (decide_eq_true hl))
        have UP := Lib.hid (fun hl => ho.out.up CC.out.ord HA.out HB'.out sa rm rp sp kh.1 kh.2 hx (by rw [hq]; exact hy) (decide_eq_false hl))
        have ph : (h : Int) < (len : Int) := by omega
        have pa : (q : Int) < (len : Int) := by omega
        clear hO hx hy ex ey ho hq
        generalize cf y x = r at *
        by_cases hr : r < 0
        · have HN := Lib.hid (DN.out hr); clear UP DN
          have hb1 : decide (r < 0) = true := decide_eq_true hr
          go_wp2_with fail
          refine wp_region_quiet_below mixed (by kernel_rfl) ?_
          repeat (quiet_step (first | with_reducible exact q1.out _ _))
          refine wpQuiet_nil ?_
          intro w3 hw3
          have hb3 : Below wr.heap.size wr w3 := by obtain ⟨p, rfl⟩ := hw3; exact below_regrown _ _ _
          have HB3 := Lib.hid (below_tr HB.out hb3)
          clear hw3 hb3 lx ly
          go_wp2
          go_roundw
          case rel => exact ⟨i, h, rfl, rfl, HN, HB3.out⟩
          case measure => simp [intOf]; omega
        · have HN := Lib.hid (UP.out hr); clear UP DN
          have hb1 : decide (r < 0) = false := decide_eq_false hr
          go_wp2_with fail
          refine wp_region_quiet_below mixed (by kernel_rfl) ?_
          repeat (quiet_step (first | with_reducible exact q1.out _ _))
          refine wpQuiet_nil ?_
          intro w3 hw3
          have hb3 : Below wr.heap.size wr w3 := by obtain ⟨p, rfl⟩ := hw3; exact below_regrown _ _ _
          have HB3 := Lib.hid (below_tr HB.out hb3)
          clear hw3 hb3 lx ly
          go_wp2
          go_roundw
          case rel => exact ⟨h + 1, j, by go_num, rfl, HN, HB3.out⟩
          case measure => simp [intOf]; omega
      · have hz : ¬ (i : Int) < (j : Int) := by omega
        obtain rfl : i = j := by omega
        obtain ⟨e, he⟩ : ∃ e, mid + m - i = e := ⟨_, rfl⟩
        have PT := Lib.hid (SymSt.done CC.out.ord HA.out HB'.out (show a < m by omega) (show m < b by omega) (by rw [HLEN.out]; exact hb) HM.out.1 H0.out (by rw [show mid + m - 1 = p by have := HM.out; omega]; exact ho.out))
        rw [he] at PT
        have g1 := PT.out.as; have g2 := PT.out.sm; have g3 := PT.out.me; have g4 := PT.out.eb
        have hme : i + (e - m) = mid := by omega
        have hmide : mid ≤ e := by omega
        have himid : i ≤ mid := by omega
        have ee : (n : Int) - (i : Int) = (e : Int) := by have := HM.out; omega
        have OS := Lib.hid (HO0.out.below HB.out)
        have GS := Lib.hid (show w.grownBy wr (some g) from gb_below HB.out _)
        have bl : b ≤ l.length := by rw [HLEN.out]; exact hb
        have L1 := Lib.hid (PT.out.len bl)
        have S1 := Lib.hid (PT.out.s1 bl HA.out); have S2 := Lib.hid (PT.out.s2 bl HB'.out); have S3 := Lib.hid (PT.out.s3 bl HA.out); have S4 := Lib.hid (PT.out.s4 bl HB'.out)
        have NO := Lib.hid (fun h => rotL_none l g2 g3 (Nat.le_trans g4 bl) h)
        have DONE := Lib.hid (fun l2 l3 => PT.out.done (l2 := l2) (l3 := l3) CC.out.ord bl HA.out HB'.out)
        rw [hme] at S2 S3 DONE
        rw [HLEN.out] at L1
        obtain ⟨R, hR⟩ : ∃ R, rotL i m e l = R := ⟨_, rfl⟩
        have RT := Lib.hid (fun x1 x2 => ROT.out i e wr OS.out x1 x2 (by omega))
        rw [hR] at L1 S1 S2 S3 S4 NO DONE RT
        have HME := Lib.hid hme; have BL := Lib.hid bl
        clear ho hR he PT hme bl
        go_upto_region 39 with (fail)
        clear ee hz
        obtain ⟨b1, hb1⟩ : ∃ b1, decide (i < m ∧ m < e) = b1 := ⟨_, rfl⟩
        go_cut [185] (fun s185 wx => s185 = .bool b1 ∧ wr = wx)
        case first =>
          as_aux_lemma =>
            by_cases q1 : i < m
            · have z1 : (i : Int) < (m : Int) := by omega
              by_cases q2 : m < e
              · have z2 : (m : Int) < (e : Int) := by omega
                obtain rfl : b1 = true := by rw [← hb1]; exact decide_eq_true ⟨q1, q2⟩
                go_wp2_with fail
                go_meet
                case rel => exact ⟨rfl, rfl⟩
              · have z2 : ¬ (m : Int) < (e : Int) := by omega
                obtain rfl : b1 = false := by rw [← hb1]; exact decide_eq_false (fun h => q2 h.2)
                go_wp2_with fail
                go_meet
                case rel => exact ⟨rfl, rfl⟩
            · have z1 : ¬ (i : Int) < (m : Int) := by omega
              obtain rfl : b1 = false := by rw [← hb1]; exact decide_eq_false (fun h => q1 h.1)
              go_wp2_with fail
              go_meet
              case rel => exact ⟨rfl, rfl⟩
        case rest =>
          as_aux_lemma =>
            obtain ⟨rfl, rfl⟩ := hcut
            go_upto_if 185 with (fail)
            go_cut [] (fun wx => OwnX E wx base (.slice (some ⟨g, 0, none⟩) len c) R ∧ w.grownBy wx (some g))
            case first =>
              as_aux_lemma =>
                cases b1 with
                | true =>
                  obtain ⟨q1, q2⟩ := of_decide_eq_true hb1
                  have CR := Lib.hid (RT.out q1 q2)
                  go_wp2_with fail
                  refine CR.out.mono ?_
                  rintro e1 w1 ⟨rfl, l1, rfl, x2, x3⟩
                  go_wp2_with fail
                  go_meet
                  case rel => exact ⟨by rw [HLEN.out] at x2; exact x2, GS.out.trans x3⟩
                | false =>
                  have hno := NO.out (of_decide_eq_false hb1)
                  go_wp2_with fail
                  go_meet
                  case rel => exact ⟨by rw [hno]; exact OS.out, GS.out⟩
            case rest =>
              as_aux_lemma =>
                obtain ⟨hO, hg⟩ := hcut
                have OR := Lib.hid hO; have GR := Lib.hid hg
                clear hO hg NO RT hb1 OS GS HB'
                have NO2 := Lib.hid (fun (h : ¬ (a < i ∧ i < mid)) => show MG (fun x y => decide (cf x y < 0)) a mid R R from MG.same (by
                  rcases (by omega : i = a ∨ i = mid) with h | h
                  · rw [← h]; exact S2.out
                  · rw [← h]; exact S1.out))
                have C2 := Lib.hid (fun x1 x2 => IH'.out a i mid g c base R wc (by omega) (by rw [L1.out]; exact OR.out) x1 x2 (by rw [L1.out]; omega) (by rw [L1.out]; exact hl) S1.out S2.out)
                rw [L1.out] at C2
                obtain ⟨b2, hb2⟩ : ∃ b2, decide (a < i ∧ i < mid) = b2 := ⟨_, rfl⟩
                go_upto_region 41 with (fail)
                go_cut [199] (fun s199 wx => s199 = .bool b2 ∧ wc = wx)
                case first =>
                  as_aux_lemma =>
                    by_cases q1 : a < i
                    · have z1 : (a : Int) < (i : Int) := by omega
                      by_cases q2 : i < mid
                      · have z2 : (i : Int) < (mid : Int) := by omega
                        obtain rfl : b2 = true := by rw [← hb2]; exact decide_eq_true ⟨q1, q2⟩
                        go_wp2_with fail
                        go_meet
                        case rel => exact ⟨rfl, rfl⟩
                      · have z2 : ¬ (i : Int) < (mid : Int) := by omega
                        obtain rfl : b2 = false := by rw [← hb2]; exact decide_eq_false (fun h => q2 h.2)
                        go_wp2_with fail
                        go_meet
                        case rel => exact ⟨rfl, rfl⟩
                    · have z1 : ¬ (a : Int) < (i : Int) := by omega
                      obtain rfl : b2 = false := by rw [← hb2]; exact decide_eq_false (fun h => q1 h.1)
                      go_wp2_with fail
                      go_meet
                      case rel => exact ⟨rfl, rfl⟩
                case rest =>
                  as_aux_lemma =>
                    obtain ⟨rfl, rfl⟩ := hcut
                    go_upto_if 199 with (fail)
                    go_cut [] (fun wx => ∃ l2, Hid (MG (fun x y => decide (cf x y < 0)) a mid R l2) ∧ OwnX E wx base (.slice (some ⟨g, 0, none⟩) len c) l2 ∧ w.grownBy wx (some g))
                    case first =>
                      as_aux_lemma =>
                        cases b2 with
                        | true =>
                          obtain ⟨q1, q2⟩ := of_decide_eq_true hb2
                          have CR := Lib.hid (C2.out q1 q2)
                          go_wp2_with fail
                          refine CR.out.mono ?_
                          rintro e1 w1 ⟨rfl, l2, x1, x2, x3⟩
                          have X1 := Lib.hid x1
                          clear x1
                          go_wp2_with fail
                          go_meet
                          case rel => exact ⟨l2, X1, by rw [L1.out] at x2; exact x2, GR.out.trans x3⟩
                        | false =>
                          have X1 := Lib.hid (NO2.out (of_decide_eq_false hb2))
                          go_wp2_with fail
                          go_meet
                          case rel => exact ⟨R, X1, OR.out, GR.out⟩
                    case rest =>
                      as_aux_lemma =>
                        obtain ⟨l2, M2, hO, hg⟩ := hcut
                        have O2 := Lib.hid hO; have G2 := Lib.hid hg
                        have L2 := Lib.hid (M2.out.len.trans L1.out)
                        have T3 := Lib.hid (S3.out.same fun k k1 k2 => M2.out.out k (.inr k1))
                        have T4 := Lib.hid (S4.out.same fun k k1 k2 => M2.out.out k (.inr (by omega)))
                        clear hO hg NO2 C2 hb2 S1 S2 S3 S4
                        have NO3 := Lib.hid (fun (h : ¬ (mid < e ∧ e < b)) => show MG (fun x y => decide (cf x y < 0)) mid b l2 l2 from MG.same (by
                          rcases (by omega : e = mid ∨ e = b) with h | h
                          · rw [← h]; exact T4.out
                          · rw [← h]; exact T3.out))
                        have C3 := Lib.hid (fun x1 x2 => IH'.out mid e b g c base l2 wc (by omega) (by rw [L2.out]; exact O2.out) x1 x2 (by rw [L2.out]; omega) (by rw [L2.out]; exact hl) T3.out T4.out)
                        rw [L2.out] at C3
                        obtain ⟨b3, hb3⟩ : ∃ b3, decide (mid < e ∧ e < b) = b3 := ⟨_, rfl⟩
                        go_upto_region 43 with (fail)
                        go_cut [213] (fun s213 wx => s213 = .bool b3 ∧ wc = wx)
                        case first =>
                          as_aux_lemma =>
                            by_cases q1 : mid < e
                            · have z1 : (mid : Int) < (e : Int) := by omega
                              by_cases q2 : e < b
                              · have z2 : (e : Int) < (b : Int) := by omega
                                obtain rfl : b3 = true := by rw [← hb3]; exact decide_eq_true ⟨q1, q2⟩
                                go_wp2_with fail
                                go_meet
                                case rel => exact ⟨rfl, rfl⟩
                              · have z2 : ¬ (e : Int) < (b : Int) := by omega
                                obtain rfl : b3 = false := by rw [← hb3]; exact decide_eq_false (fun h => q2 h.2)
                                go_wp2_with fail
                                go_meet
                                case rel => exact ⟨rfl, rfl⟩
                            · have z1 : ¬ (mid : Int) < (e : Int) := by omega
                              obtain rfl : b3 = false := by rw [← hb3]; exact decide_eq_false (fun h => q1 h.1)
                              go_wp2_with fail
                              go_meet
                              case rel => exact ⟨rfl, rfl⟩
                        case rest =>
                          as_aux_lemma =>
                            obtain ⟨rfl, rfl⟩ := hcut
                            cases b3 with
                            | true =>
                              obtain ⟨q1, q2⟩ := of_decide_eq_true hb3
                              have CR := Lib.hid (C3.out q1 q2)
                              clear hb3
                              go_wp2_with fail
                              refine CR.out.mono ?_
                              rintro e1 w1 ⟨rfl, l3, x1, x2, x3⟩
                              have X1 := Lib.hid (DONE.out l2 l3 M2.out x1)
                              clear x1
                              go_wp2
                              refine bodyPost_end (v := .tuple #[]) (by simp [results, Tryd.results133, go_sem]) rfl ⟨rfl, l3, X1.out, by rw [L2.out] at x2; rw [HLEN.out]; exact x2, G2.out.trans x3⟩
                            | false =>
                              have X1 := Lib.hid (DONE.out l2 l2 M2.out (NO3.out (of_decide_eq_false hb3)))
                              clear hb3
                              go_wp2
                              refine bodyPost_end (v := .tuple #[]) (by simp [results, Tryd.results133, go_sem]) rfl ⟨rfl, l2, X1.out, by rw [HLEN.out]; exact O2.out, G2.out⟩

theorem sym_gen (H : SoLay P E) {gf : Nat} {cf : α → α → Int} (C : SoCmp P E gf cf) : ∀ N, SymIH P E gf cf N
  | 0 => fun a m b g c base l w hN _ h1 h2 => by omega
  | N + 1 => fun a m b g c base l w hN HO h1 h2 hb hl hA hB => by
    by_cases c1 : a + 1 = m
    · subst c1
      exact one1_gen H C a b g c base l w HO h2 hb hl hB
    · by_cases c2 : m + 1 = b
      · subst c2
        exact one2_gen H C a m g c base l w HO (by omega) hb hl hA
      · exact symN_gen H C a m b g c base N l w (sym_gen H C N) hN HO (by omega) (by omega) hb hl hA hB
end
end Go.Proofs.YtmjeifbadjdnfaaDoor
