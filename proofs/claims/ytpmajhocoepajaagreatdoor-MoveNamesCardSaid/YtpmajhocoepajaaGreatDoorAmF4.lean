/- A part of the library Am: an abstract machine for the model, that a kernel evaluates. -/
import Derived.Test.YtpmajhocoepajaaGreatDoorAmF2
set_option linter.unusedVariables false
set_option linter.unusedSimpArgs false
/-
  Am, the fast level: the forms in which a function's text is printed.
-/
namespace Go.Am

noncomputable def t0 (E : FEnv) : AVal := E.s0.s0
noncomputable def t1 (E : FEnv) : AVal := E.s0.s1
noncomputable def t2 (E : FEnv) : AVal := E.s0.s2
noncomputable def t3 (E : FEnv) : AVal := E.s0.s3
noncomputable def t4 (E : FEnv) : AVal := E.s0.s4
noncomputable def t5 (E : FEnv) : AVal := E.s0.s5
noncomputable def t6 (E : FEnv) : AVal := E.s0.s6
noncomputable def t7 (E : FEnv) : AVal := E.s0.s7
noncomputable def t8 (E : FEnv) : AVal := E.s0.s8
noncomputable def t9 (E : FEnv) : AVal := E.s0.s9
noncomputable def t10 (E : FEnv) : AVal := E.s0.s10
noncomputable def t11 (E : FEnv) : AVal := E.s0.s11
noncomputable def t12 (E : FEnv) : AVal := E.s0.s12
noncomputable def t13 (E : FEnv) : AVal := E.s0.s13
noncomputable def t14 (E : FEnv) : AVal := E.s0.s14
noncomputable def t15 (E : FEnv) : AVal := E.s0.s15
noncomputable def t16 (E : FEnv) : AVal := E.s1.s0
noncomputable def t17 (E : FEnv) : AVal := E.s1.s1
noncomputable def t18 (E : FEnv) : AVal := E.s1.s2
noncomputable def t19 (E : FEnv) : AVal := E.s1.s3
noncomputable def t20 (E : FEnv) : AVal := E.s1.s4
noncomputable def t21 (E : FEnv) : AVal := E.s1.s5
noncomputable def t22 (E : FEnv) : AVal := E.s1.s6
noncomputable def t23 (E : FEnv) : AVal := E.s1.s7
noncomputable def t24 (E : FEnv) : AVal := E.s1.s8
noncomputable def t25 (E : FEnv) : AVal := E.s1.s9
noncomputable def t26 (E : FEnv) : AVal := E.s1.s10
noncomputable def t27 (E : FEnv) : AVal := E.s1.s11
noncomputable def t28 (E : FEnv) : AVal := E.s1.s12
noncomputable def t29 (E : FEnv) : AVal := E.s1.s13
noncomputable def t30 (E : FEnv) : AVal := E.s1.s14
noncomputable def t31 (E : FEnv) : AVal := E.s1.s15
noncomputable def t32 (E : FEnv) : AVal := E.s2.s0
noncomputable def t33 (E : FEnv) : AVal := E.s2.s1
noncomputable def t34 (E : FEnv) : AVal := E.s2.s2
noncomputable def t35 (E : FEnv) : AVal := E.s2.s3
noncomputable def t36 (E : FEnv) : AVal := E.s2.s4
noncomputable def t37 (E : FEnv) : AVal := E.s2.s5
noncomputable def t38 (E : FEnv) : AVal := E.s2.s6
noncomputable def t39 (E : FEnv) : AVal := E.s2.s7
noncomputable def t40 (E : FEnv) : AVal := E.s2.s8
noncomputable def t41 (E : FEnv) : AVal := E.s2.s9
noncomputable def t42 (E : FEnv) : AVal := E.s2.s10
noncomputable def t43 (E : FEnv) : AVal := E.s2.s11
noncomputable def t44 (E : FEnv) : AVal := E.s2.s12
noncomputable def t45 (E : FEnv) : AVal := E.s2.s13
noncomputable def t46 (E : FEnv) : AVal := E.s2.s14
noncomputable def t47 (E : FEnv) : AVal := E.s2.s15
noncomputable def t48 (E : FEnv) : AVal := E.s3.s0
noncomputable def t49 (E : FEnv) : AVal := E.s3.s1
noncomputable def t50 (E : FEnv) : AVal := E.s3.s2
noncomputable def t51 (E : FEnv) : AVal := E.s3.s3
noncomputable def t52 (E : FEnv) : AVal := E.s3.s4
noncomputable def t53 (E : FEnv) : AVal := E.s3.s5
noncomputable def t54 (E : FEnv) : AVal := E.s3.s6
noncomputable def t55 (E : FEnv) : AVal := E.s3.s7
noncomputable def t56 (E : FEnv) : AVal := E.s3.s8
noncomputable def t57 (E : FEnv) : AVal := E.s3.s9
noncomputable def t58 (E : FEnv) : AVal := E.s3.s10
noncomputable def t59 (E : FEnv) : AVal := E.s3.s11
noncomputable def t60 (E : FEnv) : AVal := E.s3.s12
noncomputable def t61 (E : FEnv) : AVal := E.s3.s13
noncomputable def t62 (E : FEnv) : AVal := E.s3.s14
noncomputable def t63 (E : FEnv) : AVal := E.s3.s15
noncomputable def t64 (E : FEnv) : AVal := E.s4.s0
noncomputable def t65 (E : FEnv) : AVal := E.s4.s1
noncomputable def t66 (E : FEnv) : AVal := E.s4.s2
noncomputable def t67 (E : FEnv) : AVal := E.s4.s3
noncomputable def t68 (E : FEnv) : AVal := E.s4.s4
noncomputable def t69 (E : FEnv) : AVal := E.s4.s5
noncomputable def t70 (E : FEnv) : AVal := E.s4.s6
noncomputable def t71 (E : FEnv) : AVal := E.s4.s7
noncomputable def t72 (E : FEnv) : AVal := E.s4.s8
noncomputable def t73 (E : FEnv) : AVal := E.s4.s9
noncomputable def t74 (E : FEnv) : AVal := E.s4.s10
noncomputable def t75 (E : FEnv) : AVal := E.s4.s11
noncomputable def t76 (E : FEnv) : AVal := E.s4.s12
noncomputable def t77 (E : FEnv) : AVal := E.s4.s13
noncomputable def t78 (E : FEnv) : AVal := E.s4.s14
noncomputable def t79 (E : FEnv) : AVal := E.s4.s15
noncomputable def t80 (E : FEnv) : AVal := E.s5.s0
noncomputable def t81 (E : FEnv) : AVal := E.s5.s1
noncomputable def t82 (E : FEnv) : AVal := E.s5.s2
noncomputable def t83 (E : FEnv) : AVal := E.s5.s3
noncomputable def t84 (E : FEnv) : AVal := E.s5.s4
noncomputable def t85 (E : FEnv) : AVal := E.s5.s5
noncomputable def t86 (E : FEnv) : AVal := E.s5.s6
noncomputable def t87 (E : FEnv) : AVal := E.s5.s7
noncomputable def t88 (E : FEnv) : AVal := E.s5.s8
noncomputable def t89 (E : FEnv) : AVal := E.s5.s9
noncomputable def t90 (E : FEnv) : AVal := E.s5.s10
noncomputable def t91 (E : FEnv) : AVal := E.s5.s11
noncomputable def t92 (E : FEnv) : AVal := E.s5.s12
noncomputable def t93 (E : FEnv) : AVal := E.s5.s13
noncomputable def t94 (E : FEnv) : AVal := E.s5.s14
noncomputable def t95 (E : FEnv) : AVal := E.s5.s15
noncomputable def t96 (E : FEnv) : AVal := E.s6.s0
noncomputable def t97 (E : FEnv) : AVal := E.s6.s1
noncomputable def t98 (E : FEnv) : AVal := E.s6.s2
noncomputable def t99 (E : FEnv) : AVal := E.s6.s3
noncomputable def t100 (E : FEnv) : AVal := E.s6.s4
noncomputable def t101 (E : FEnv) : AVal := E.s6.s5
noncomputable def t102 (E : FEnv) : AVal := E.s6.s6
noncomputable def t103 (E : FEnv) : AVal := E.s6.s7
noncomputable def t104 (E : FEnv) : AVal := E.s6.s8
noncomputable def t105 (E : FEnv) : AVal := E.s6.s9
noncomputable def t106 (E : FEnv) : AVal := E.s6.s10
noncomputable def t107 (E : FEnv) : AVal := E.s6.s11
noncomputable def t108 (E : FEnv) : AVal := E.s6.s12
noncomputable def t109 (E : FEnv) : AVal := E.s6.s13
noncomputable def t110 (E : FEnv) : AVal := E.s6.s14
noncomputable def t111 (E : FEnv) : AVal := E.s6.s15
noncomputable def t112 (E : FEnv) : AVal := E.s7.s0
noncomputable def t113 (E : FEnv) : AVal := E.s7.s1
noncomputable def t114 (E : FEnv) : AVal := E.s7.s2
noncomputable def t115 (E : FEnv) : AVal := E.s7.s3
noncomputable def t116 (E : FEnv) : AVal := E.s7.s4
noncomputable def t117 (E : FEnv) : AVal := E.s7.s5
noncomputable def t118 (E : FEnv) : AVal := E.s7.s6
noncomputable def t119 (E : FEnv) : AVal := E.s7.s7
noncomputable def t120 (E : FEnv) : AVal := E.s7.s8
noncomputable def t121 (E : FEnv) : AVal := E.s7.s9
noncomputable def t122 (E : FEnv) : AVal := E.s7.s10
noncomputable def t123 (E : FEnv) : AVal := E.s7.s11
noncomputable def t124 (E : FEnv) : AVal := E.s7.s12
noncomputable def t125 (E : FEnv) : AVal := E.s7.s13
noncomputable def t126 (E : FEnv) : AVal := E.s7.s14
noncomputable def t127 (E : FEnv) : AVal := E.s7.s15
noncomputable def t128 (E : FEnv) : AVal := E.s8.s0
noncomputable def t129 (E : FEnv) : AVal := E.s8.s1
noncomputable def t130 (E : FEnv) : AVal := E.s8.s2
noncomputable def t131 (E : FEnv) : AVal := E.s8.s3
noncomputable def t132 (E : FEnv) : AVal := E.s8.s4
noncomputable def t133 (E : FEnv) : AVal := E.s8.s5
noncomputable def t134 (E : FEnv) : AVal := E.s8.s6
noncomputable def t135 (E : FEnv) : AVal := E.s8.s7
noncomputable def t136 (E : FEnv) : AVal := E.s8.s8
noncomputable def t137 (E : FEnv) : AVal := E.s8.s9
noncomputable def t138 (E : FEnv) : AVal := E.s8.s10
noncomputable def t139 (E : FEnv) : AVal := E.s8.s11
noncomputable def t140 (E : FEnv) : AVal := E.s8.s12
noncomputable def t141 (E : FEnv) : AVal := E.s8.s13
noncomputable def t142 (E : FEnv) : AVal := E.s8.s14
noncomputable def t143 (E : FEnv) : AVal := E.s8.s15
noncomputable def t144 (E : FEnv) : AVal := E.s9.s0
noncomputable def t145 (E : FEnv) : AVal := E.s9.s1
noncomputable def t146 (E : FEnv) : AVal := E.s9.s2
noncomputable def t147 (E : FEnv) : AVal := E.s9.s3
noncomputable def t148 (E : FEnv) : AVal := E.s9.s4
noncomputable def t149 (E : FEnv) : AVal := E.s9.s5
noncomputable def t150 (E : FEnv) : AVal := E.s9.s6
noncomputable def t151 (E : FEnv) : AVal := E.s9.s7
noncomputable def t152 (E : FEnv) : AVal := E.s9.s8
noncomputable def t153 (E : FEnv) : AVal := E.s9.s9
noncomputable def t154 (E : FEnv) : AVal := E.s9.s10
noncomputable def t155 (E : FEnv) : AVal := E.s9.s11
noncomputable def t156 (E : FEnv) : AVal := E.s9.s12
noncomputable def t157 (E : FEnv) : AVal := E.s9.s13
noncomputable def t158 (E : FEnv) : AVal := E.s9.s14
noncomputable def t159 (E : FEnv) : AVal := E.s9.s15
noncomputable def t160 (E : FEnv) : AVal := E.s10.s0
noncomputable def t161 (E : FEnv) : AVal := E.s10.s1
noncomputable def t162 (E : FEnv) : AVal := E.s10.s2
noncomputable def t163 (E : FEnv) : AVal := E.s10.s3
noncomputable def t164 (E : FEnv) : AVal := E.s10.s4
noncomputable def t165 (E : FEnv) : AVal := E.s10.s5
noncomputable def t166 (E : FEnv) : AVal := E.s10.s6
noncomputable def t167 (E : FEnv) : AVal := E.s10.s7
noncomputable def t168 (E : FEnv) : AVal := E.s10.s8
noncomputable def t169 (E : FEnv) : AVal := E.s10.s9
noncomputable def t170 (E : FEnv) : AVal := E.s10.s10
noncomputable def t171 (E : FEnv) : AVal := E.s10.s11
noncomputable def t172 (E : FEnv) : AVal := E.s10.s12
noncomputable def t173 (E : FEnv) : AVal := E.s10.s13
noncomputable def t174 (E : FEnv) : AVal := E.s10.s14
noncomputable def t175 (E : FEnv) : AVal := E.s10.s15
noncomputable def t176 (E : FEnv) : AVal := E.s11.s0
noncomputable def t177 (E : FEnv) : AVal := E.s11.s1
noncomputable def t178 (E : FEnv) : AVal := E.s11.s2
noncomputable def t179 (E : FEnv) : AVal := E.s11.s3
noncomputable def t180 (E : FEnv) : AVal := E.s11.s4
noncomputable def t181 (E : FEnv) : AVal := E.s11.s5
noncomputable def t182 (E : FEnv) : AVal := E.s11.s6
noncomputable def t183 (E : FEnv) : AVal := E.s11.s7
noncomputable def t184 (E : FEnv) : AVal := E.s11.s8
noncomputable def t185 (E : FEnv) : AVal := E.s11.s9
noncomputable def t186 (E : FEnv) : AVal := E.s11.s10
noncomputable def t187 (E : FEnv) : AVal := E.s11.s11
noncomputable def t188 (E : FEnv) : AVal := E.s11.s12
noncomputable def t189 (E : FEnv) : AVal := E.s11.s13
noncomputable def t190 (E : FEnv) : AVal := E.s11.s14
noncomputable def t191 (E : FEnv) : AVal := E.s11.s15
noncomputable def t192 (E : FEnv) : AVal := E.s12.s0
noncomputable def t193 (E : FEnv) : AVal := E.s12.s1
noncomputable def t194 (E : FEnv) : AVal := E.s12.s2
noncomputable def t195 (E : FEnv) : AVal := E.s12.s3
noncomputable def t196 (E : FEnv) : AVal := E.s12.s4
noncomputable def t197 (E : FEnv) : AVal := E.s12.s5
noncomputable def t198 (E : FEnv) : AVal := E.s12.s6
noncomputable def t199 (E : FEnv) : AVal := E.s12.s7
noncomputable def t200 (E : FEnv) : AVal := E.s12.s8
noncomputable def t201 (E : FEnv) : AVal := E.s12.s9
noncomputable def t202 (E : FEnv) : AVal := E.s12.s10
noncomputable def t203 (E : FEnv) : AVal := E.s12.s11
noncomputable def t204 (E : FEnv) : AVal := E.s12.s12
noncomputable def t205 (E : FEnv) : AVal := E.s12.s13
noncomputable def t206 (E : FEnv) : AVal := E.s12.s14
noncomputable def t207 (E : FEnv) : AVal := E.s12.s15
noncomputable def t208 (E : FEnv) : AVal := E.s13.s0
noncomputable def t209 (E : FEnv) : AVal := E.s13.s1
noncomputable def t210 (E : FEnv) : AVal := E.s13.s2
noncomputable def t211 (E : FEnv) : AVal := E.s13.s3
noncomputable def t212 (E : FEnv) : AVal := E.s13.s4
noncomputable def t213 (E : FEnv) : AVal := E.s13.s5
noncomputable def t214 (E : FEnv) : AVal := E.s13.s6
noncomputable def t215 (E : FEnv) : AVal := E.s13.s7
noncomputable def t216 (E : FEnv) : AVal := E.s13.s8
noncomputable def t217 (E : FEnv) : AVal := E.s13.s9
noncomputable def t218 (E : FEnv) : AVal := E.s13.s10
noncomputable def t219 (E : FEnv) : AVal := E.s13.s11
noncomputable def t220 (E : FEnv) : AVal := E.s13.s12
noncomputable def t221 (E : FEnv) : AVal := E.s13.s13
noncomputable def t222 (E : FEnv) : AVal := E.s13.s14
noncomputable def t223 (E : FEnv) : AVal := E.s13.s15
noncomputable def t224 (E : FEnv) : AVal := E.s14.s0
noncomputable def t225 (E : FEnv) : AVal := E.s14.s1
noncomputable def t226 (E : FEnv) : AVal := E.s14.s2
noncomputable def t227 (E : FEnv) : AVal := E.s14.s3
noncomputable def t228 (E : FEnv) : AVal := E.s14.s4
noncomputable def t229 (E : FEnv) : AVal := E.s14.s5
noncomputable def t230 (E : FEnv) : AVal := E.s14.s6
noncomputable def t231 (E : FEnv) : AVal := E.s14.s7
noncomputable def t232 (E : FEnv) : AVal := E.s14.s8
noncomputable def t233 (E : FEnv) : AVal := E.s14.s9
noncomputable def t234 (E : FEnv) : AVal := E.s14.s10
noncomputable def t235 (E : FEnv) : AVal := E.s14.s11
noncomputable def t236 (E : FEnv) : AVal := E.s14.s12
noncomputable def t237 (E : FEnv) : AVal := E.s14.s13
noncomputable def t238 (E : FEnv) : AVal := E.s14.s14
noncomputable def t239 (E : FEnv) : AVal := E.s14.s15
noncomputable def t240 (E : FEnv) : AVal := E.s15.s0
noncomputable def t241 (E : FEnv) : AVal := E.s15.s1
noncomputable def t242 (E : FEnv) : AVal := E.s15.s2
noncomputable def t243 (E : FEnv) : AVal := E.s15.s3
noncomputable def t244 (E : FEnv) : AVal := E.s15.s4
noncomputable def t245 (E : FEnv) : AVal := E.s15.s5
noncomputable def t246 (E : FEnv) : AVal := E.s15.s6
noncomputable def t247 (E : FEnv) : AVal := E.s15.s7
noncomputable def t248 (E : FEnv) : AVal := E.s15.s8
noncomputable def t249 (E : FEnv) : AVal := E.s15.s9
noncomputable def t250 (E : FEnv) : AVal := E.s15.s10
noncomputable def t251 (E : FEnv) : AVal := E.s15.s11
noncomputable def t252 (E : FEnv) : AVal := E.s15.s12
noncomputable def t253 (E : FEnv) : AVal := E.s15.s13
noncomputable def t254 (E : FEnv) : AVal := E.s15.s14
noncomputable def t255 (E : FEnv) : AVal := E.s15.s15
noncomputable def d0 (E : FEnv) (v : AVal) : FEnv := E.p0 (E.s0.p0 v)
noncomputable def d1 (E : FEnv) (v : AVal) : FEnv := E.p0 (E.s0.p1 v)
noncomputable def d2 (E : FEnv) (v : AVal) : FEnv := E.p0 (E.s0.p2 v)
noncomputable def d3 (E : FEnv) (v : AVal) : FEnv := E.p0 (E.s0.p3 v)
noncomputable def d4 (E : FEnv) (v : AVal) : FEnv := E.p0 (E.s0.p4 v)
noncomputable def d5 (E : FEnv) (v : AVal) : FEnv := E.p0 (E.s0.p5 v)
noncomputable def d6 (E : FEnv) (v : AVal) : FEnv := E.p0 (E.s0.p6 v)
noncomputable def d7 (E : FEnv) (v : AVal) : FEnv := E.p0 (E.s0.p7 v)
noncomputable def d8 (E : FEnv) (v : AVal) : FEnv := E.p0 (E.s0.p8 v)
noncomputable def d9 (E : FEnv) (v : AVal) : FEnv := E.p0 (E.s0.p9 v)
noncomputable def d10 (E : FEnv) (v : AVal) : FEnv := E.p0 (E.s0.p10 v)
noncomputable def d11 (E : FEnv) (v : AVal) : FEnv := E.p0 (E.s0.p11 v)
noncomputable def d12 (E : FEnv) (v : AVal) : FEnv := E.p0 (E.s0.p12 v)
noncomputable def d13 (E : FEnv) (v : AVal) : FEnv := E.p0 (E.s0.p13 v)
noncomputable def d14 (E : FEnv) (v : AVal) : FEnv := E.p0 (E.s0.p14 v)
noncomputable def d15 (E : FEnv) (v : AVal) : FEnv := E.p0 (E.s0.p15 v)
noncomputable def d16 (E : FEnv) (v : AVal) : FEnv := E.p1 (E.s1.p0 v)
noncomputable def d17 (E : FEnv) (v : AVal) : FEnv := E.p1 (E.s1.p1 v)
noncomputable def d18 (E : FEnv) (v : AVal) : FEnv := E.p1 (E.s1.p2 v)
noncomputable def d19 (E : FEnv) (v : AVal) : FEnv := E.p1 (E.s1.p3 v)
noncomputable def d20 (E : FEnv) (v : AVal) : FEnv := E.p1 (E.s1.p4 v)
noncomputable def d21 (E : FEnv) (v : AVal) : FEnv := E.p1 (E.s1.p5 v)
noncomputable def d22 (E : FEnv) (v : AVal) : FEnv := E.p1 (E.s1.p6 v)
noncomputable def d23 (E : FEnv) (v : AVal) : FEnv := E.p1 (E.s1.p7 v)
noncomputable def d24 (E : FEnv) (v : AVal) : FEnv := E.p1 (E.s1.p8 v)
noncomputable def d25 (E : FEnv) (v : AVal) : FEnv := E.p1 (E.s1.p9 v)
noncomputable def d26 (E : FEnv) (v : AVal) : FEnv := E.p1 (E.s1.p10 v)
noncomputable def d27 (E : FEnv) (v : AVal) : FEnv := E.p1 (E.s1.p11 v)
noncomputable def d28 (E : FEnv) (v : AVal) : FEnv := E.p1 (E.s1.p12 v)
noncomputable def d29 (E : FEnv) (v : AVal) : FEnv := E.p1 (E.s1.p13 v)
noncomputable def d30 (E : FEnv) (v : AVal) : FEnv := E.p1 (E.s1.p14 v)
noncomputable def d31 (E : FEnv) (v : AVal) : FEnv := E.p1 (E.s1.p15 v)
noncomputable def d32 (E : FEnv) (v : AVal) : FEnv := E.p2 (E.s2.p0 v)
noncomputable def d33 (E : FEnv) (v : AVal) : FEnv := E.p2 (E.s2.p1 v)
noncomputable def d34 (E : FEnv) (v : AVal) : FEnv := E.p2 (E.s2.p2 v)
noncomputable def d35 (E : FEnv) (v : AVal) : FEnv := E.p2 (E.s2.p3 v)
noncomputable def d36 (E : FEnv) (v : AVal) : FEnv := E.p2 (E.s2.p4 v)
noncomputable def d37 (E : FEnv) (v : AVal) : FEnv := E.p2 (E.s2.p5 v)
noncomputable def d38 (E : FEnv) (v : AVal) : FEnv := E.p2 (E.s2.p6 v)
noncomputable def d39 (E : FEnv) (v : AVal) : FEnv := E.p2 (E.s2.p7 v)
noncomputable def d40 (E : FEnv) (v : AVal) : FEnv := E.p2 (E.s2.p8 v)
noncomputable def d41 (E : FEnv) (v : AVal) : FEnv := E.p2 (E.s2.p9 v)
noncomputable def d42 (E : FEnv) (v : AVal) : FEnv := E.p2 (E.s2.p10 v)
noncomputable def d43 (E : FEnv) (v : AVal) : FEnv := E.p2 (E.s2.p11 v)
noncomputable def d44 (E : FEnv) (v : AVal) : FEnv := E.p2 (E.s2.p12 v)
noncomputable def d45 (E : FEnv) (v : AVal) : FEnv := E.p2 (E.s2.p13 v)
noncomputable def d46 (E : FEnv) (v : AVal) : FEnv := E.p2 (E.s2.p14 v)
noncomputable def d47 (E : FEnv) (v : AVal) : FEnv := E.p2 (E.s2.p15 v)
noncomputable def d48 (E : FEnv) (v : AVal) : FEnv := E.p3 (E.s3.p0 v)
noncomputable def d49 (E : FEnv) (v : AVal) : FEnv := E.p3 (E.s3.p1 v)
noncomputable def d50 (E : FEnv) (v : AVal) : FEnv := E.p3 (E.s3.p2 v)
noncomputable def d51 (E : FEnv) (v : AVal) : FEnv := E.p3 (E.s3.p3 v)
noncomputable def d52 (E : FEnv) (v : AVal) : FEnv := E.p3 (E.s3.p4 v)
noncomputable def d53 (E : FEnv) (v : AVal) : FEnv := E.p3 (E.s3.p5 v)
noncomputable def d54 (E : FEnv) (v : AVal) : FEnv := E.p3 (E.s3.p6 v)
noncomputable def d55 (E : FEnv) (v : AVal) : FEnv := E.p3 (E.s3.p7 v)
noncomputable def d56 (E : FEnv) (v : AVal) : FEnv := E.p3 (E.s3.p8 v)
noncomputable def d57 (E : FEnv) (v : AVal) : FEnv := E.p3 (E.s3.p9 v)
noncomputable def d58 (E : FEnv) (v : AVal) : FEnv := E.p3 (E.s3.p10 v)
noncomputable def d59 (E : FEnv) (v : AVal) : FEnv := E.p3 (E.s3.p11 v)
noncomputable def d60 (E : FEnv) (v : AVal) : FEnv := E.p3 (E.s3.p12 v)
noncomputable def d61 (E : FEnv) (v : AVal) : FEnv := E.p3 (E.s3.p13 v)
noncomputable def d62 (E : FEnv) (v : AVal) : FEnv := E.p3 (E.s3.p14 v)
noncomputable def d63 (E : FEnv) (v : AVal) : FEnv := E.p3 (E.s3.p15 v)
noncomputable def d64 (E : FEnv) (v : AVal) : FEnv := E.p4 (E.s4.p0 v)
noncomputable def d65 (E : FEnv) (v : AVal) : FEnv := E.p4 (E.s4.p1 v)
noncomputable def d66 (E : FEnv) (v : AVal) : FEnv := E.p4 (E.s4.p2 v)
noncomputable def d67 (E : FEnv) (v : AVal) : FEnv := E.p4 (E.s4.p3 v)
noncomputable def d68 (E : FEnv) (v : AVal) : FEnv := E.p4 (E.s4.p4 v)
noncomputable def d69 (E : FEnv) (v : AVal) : FEnv := E.p4 (E.s4.p5 v)
noncomputable def d70 (E : FEnv) (v : AVal) : FEnv := E.p4 (E.s4.p6 v)
noncomputable def d71 (E : FEnv) (v : AVal) : FEnv := E.p4 (E.s4.p7 v)
noncomputable def d72 (E : FEnv) (v : AVal) : FEnv := E.p4 (E.s4.p8 v)
noncomputable def d73 (E : FEnv) (v : AVal) : FEnv := E.p4 (E.s4.p9 v)
noncomputable def d74 (E : FEnv) (v : AVal) : FEnv := E.p4 (E.s4.p10 v)
noncomputable def d75 (E : FEnv) (v : AVal) : FEnv := E.p4 (E.s4.p11 v)
noncomputable def d76 (E : FEnv) (v : AVal) : FEnv := E.p4 (E.s4.p12 v)
noncomputable def d77 (E : FEnv) (v : AVal) : FEnv := E.p4 (E.s4.p13 v)
noncomputable def d78 (E : FEnv) (v : AVal) : FEnv := E.p4 (E.s4.p14 v)
noncomputable def d79 (E : FEnv) (v : AVal) : FEnv := E.p4 (E.s4.p15 v)
noncomputable def d80 (E : FEnv) (v : AVal) : FEnv := E.p5 (E.s5.p0 v)
noncomputable def d81 (E : FEnv) (v : AVal) : FEnv := E.p5 (E.s5.p1 v)
noncomputable def d82 (E : FEnv) (v : AVal) : FEnv := E.p5 (E.s5.p2 v)
noncomputable def d83 (E : FEnv) (v : AVal) : FEnv := E.p5 (E.s5.p3 v)
noncomputable def d84 (E : FEnv) (v : AVal) : FEnv := E.p5 (E.s5.p4 v)
noncomputable def d85 (E : FEnv) (v : AVal) : FEnv := E.p5 (E.s5.p5 v)
noncomputable def d86 (E : FEnv) (v : AVal) : FEnv := E.p5 (E.s5.p6 v)
noncomputable def d87 (E : FEnv) (v : AVal) : FEnv := E.p5 (E.s5.p7 v)
noncomputable def d88 (E : FEnv) (v : AVal) : FEnv := E.p5 (E.s5.p8 v)
noncomputable def d89 (E : FEnv) (v : AVal) : FEnv := E.p5 (E.s5.p9 v)
noncomputable def d90 (E : FEnv) (v : AVal) : FEnv := E.p5 (E.s5.p10 v)
noncomputable def d91 (E : FEnv) (v : AVal) : FEnv := E.p5 (E.s5.p11 v)
noncomputable def d92 (E : FEnv) (v : AVal) : FEnv := E.p5 (E.s5.p12 v)
noncomputable def d93 (E : FEnv) (v : AVal) : FEnv := E.p5 (E.s5.p13 v)
noncomputable def d94 (E : FEnv) (v : AVal) : FEnv := E.p5 (E.s5.p14 v)
noncomputable def d95 (E : FEnv) (v : AVal) : FEnv := E.p5 (E.s5.p15 v)
noncomputable def d96 (E : FEnv) (v : AVal) : FEnv := E.p6 (E.s6.p0 v)
noncomputable def d97 (E : FEnv) (v : AVal) : FEnv := E.p6 (E.s6.p1 v)
noncomputable def d98 (E : FEnv) (v : AVal) : FEnv := E.p6 (E.s6.p2 v)
noncomputable def d99 (E : FEnv) (v : AVal) : FEnv := E.p6 (E.s6.p3 v)
noncomputable def d100 (E : FEnv) (v : AVal) : FEnv := E.p6 (E.s6.p4 v)
noncomputable def d101 (E : FEnv) (v : AVal) : FEnv := E.p6 (E.s6.p5 v)
noncomputable def d102 (E : FEnv) (v : AVal) : FEnv := E.p6 (E.s6.p6 v)
noncomputable def d103 (E : FEnv) (v : AVal) : FEnv := E.p6 (E.s6.p7 v)
noncomputable def d104 (E : FEnv) (v : AVal) : FEnv := E.p6 (E.s6.p8 v)
noncomputable def d105 (E : FEnv) (v : AVal) : FEnv := E.p6 (E.s6.p9 v)
noncomputable def d106 (E : FEnv) (v : AVal) : FEnv := E.p6 (E.s6.p10 v)
noncomputable def d107 (E : FEnv) (v : AVal) : FEnv := E.p6 (E.s6.p11 v)
noncomputable def d108 (E : FEnv) (v : AVal) : FEnv := E.p6 (E.s6.p12 v)
noncomputable def d109 (E : FEnv) (v : AVal) : FEnv := E.p6 (E.s6.p13 v)
noncomputable def d110 (E : FEnv) (v : AVal) : FEnv := E.p6 (E.s6.p14 v)
noncomputable def d111 (E : FEnv) (v : AVal) : FEnv := E.p6 (E.s6.p15 v)
noncomputable def d112 (E : FEnv) (v : AVal) : FEnv := E.p7 (E.s7.p0 v)
noncomputable def d113 (E : FEnv) (v : AVal) : FEnv := E.p7 (E.s7.p1 v)
noncomputable def d114 (E : FEnv) (v : AVal) : FEnv := E.p7 (E.s7.p2 v)
noncomputable def d115 (E : FEnv) (v : AVal) : FEnv := E.p7 (E.s7.p3 v)
noncomputable def d116 (E : FEnv) (v : AVal) : FEnv := E.p7 (E.s7.p4 v)
noncomputable def d117 (E : FEnv) (v : AVal) : FEnv := E.p7 (E.s7.p5 v)
noncomputable def d118 (E : FEnv) (v : AVal) : FEnv := E.p7 (E.s7.p6 v)
noncomputable def d119 (E : FEnv) (v : AVal) : FEnv := E.p7 (E.s7.p7 v)
noncomputable def d120 (E : FEnv) (v : AVal) : FEnv := E.p7 (E.s7.p8 v)
noncomputable def d121 (E : FEnv) (v : AVal) : FEnv := E.p7 (E.s7.p9 v)
noncomputable def d122 (E : FEnv) (v : AVal) : FEnv := E.p7 (E.s7.p10 v)
noncomputable def d123 (E : FEnv) (v : AVal) : FEnv := E.p7 (E.s7.p11 v)
noncomputable def d124 (E : FEnv) (v : AVal) : FEnv := E.p7 (E.s7.p12 v)
noncomputable def d125 (E : FEnv) (v : AVal) : FEnv := E.p7 (E.s7.p13 v)
noncomputable def d126 (E : FEnv) (v : AVal) : FEnv := E.p7 (E.s7.p14 v)
noncomputable def d127 (E : FEnv) (v : AVal) : FEnv := E.p7 (E.s7.p15 v)
noncomputable def d128 (E : FEnv) (v : AVal) : FEnv := E.p8 (E.s8.p0 v)
noncomputable def d129 (E : FEnv) (v : AVal) : FEnv := E.p8 (E.s8.p1 v)
noncomputable def d130 (E : FEnv) (v : AVal) : FEnv := E.p8 (E.s8.p2 v)
noncomputable def d131 (E : FEnv) (v : AVal) : FEnv := E.p8 (E.s8.p3 v)
noncomputable def d132 (E : FEnv) (v : AVal) : FEnv := E.p8 (E.s8.p4 v)
noncomputable def d133 (E : FEnv) (v : AVal) : FEnv := E.p8 (E.s8.p5 v)
noncomputable def d134 (E : FEnv) (v : AVal) : FEnv := E.p8 (E.s8.p6 v)
noncomputable def d135 (E : FEnv) (v : AVal) : FEnv := E.p8 (E.s8.p7 v)
noncomputable def d136 (E : FEnv) (v : AVal) : FEnv := E.p8 (E.s8.p8 v)
noncomputable def d137 (E : FEnv) (v : AVal) : FEnv := E.p8 (E.s8.p9 v)
noncomputable def d138 (E : FEnv) (v : AVal) : FEnv := E.p8 (E.s8.p10 v)
noncomputable def d139 (E : FEnv) (v : AVal) : FEnv := E.p8 (E.s8.p11 v)
noncomputable def d140 (E : FEnv) (v : AVal) : FEnv := E.p8 (E.s8.p12 v)
noncomputable def d141 (E : FEnv) (v : AVal) : FEnv := E.p8 (E.s8.p13 v)
noncomputable def d142 (E : FEnv) (v : AVal) : FEnv := E.p8 (E.s8.p14 v)
noncomputable def d143 (E : FEnv) (v : AVal) : FEnv := E.p8 (E.s8.p15 v)
noncomputable def d144 (E : FEnv) (v : AVal) : FEnv := E.p9 (E.s9.p0 v)
noncomputable def d145 (E : FEnv) (v : AVal) : FEnv := E.p9 (E.s9.p1 v)
noncomputable def d146 (E : FEnv) (v : AVal) : FEnv := E.p9 (E.s9.p2 v)
noncomputable def d147 (E : FEnv) (v : AVal) : FEnv := E.p9 (E.s9.p3 v)
noncomputable def d148 (E : FEnv) (v : AVal) : FEnv := E.p9 (E.s9.p4 v)
noncomputable def d149 (E : FEnv) (v : AVal) : FEnv := E.p9 (E.s9.p5 v)
noncomputable def d150 (E : FEnv) (v : AVal) : FEnv := E.p9 (E.s9.p6 v)
noncomputable def d151 (E : FEnv) (v : AVal) : FEnv := E.p9 (E.s9.p7 v)
noncomputable def d152 (E : FEnv) (v : AVal) : FEnv := E.p9 (E.s9.p8 v)
noncomputable def d153 (E : FEnv) (v : AVal) : FEnv := E.p9 (E.s9.p9 v)
noncomputable def d154 (E : FEnv) (v : AVal) : FEnv := E.p9 (E.s9.p10 v)
noncomputable def d155 (E : FEnv) (v : AVal) : FEnv := E.p9 (E.s9.p11 v)
noncomputable def d156 (E : FEnv) (v : AVal) : FEnv := E.p9 (E.s9.p12 v)
noncomputable def d157 (E : FEnv) (v : AVal) : FEnv := E.p9 (E.s9.p13 v)
noncomputable def d158 (E : FEnv) (v : AVal) : FEnv := E.p9 (E.s9.p14 v)
noncomputable def d159 (E : FEnv) (v : AVal) : FEnv := E.p9 (E.s9.p15 v)
noncomputable def d160 (E : FEnv) (v : AVal) : FEnv := E.p10 (E.s10.p0 v)
noncomputable def d161 (E : FEnv) (v : AVal) : FEnv := E.p10 (E.s10.p1 v)
noncomputable def d162 (E : FEnv) (v : AVal) : FEnv := E.p10 (E.s10.p2 v)
noncomputable def d163 (E : FEnv) (v : AVal) : FEnv := E.p10 (E.s10.p3 v)
noncomputable def d164 (E : FEnv) (v : AVal) : FEnv := E.p10 (E.s10.p4 v)
noncomputable def d165 (E : FEnv) (v : AVal) : FEnv := E.p10 (E.s10.p5 v)
noncomputable def d166 (E : FEnv) (v : AVal) : FEnv := E.p10 (E.s10.p6 v)
noncomputable def d167 (E : FEnv) (v : AVal) : FEnv := E.p10 (E.s10.p7 v)
noncomputable def d168 (E : FEnv) (v : AVal) : FEnv := E.p10 (E.s10.p8 v)
noncomputable def d169 (E : FEnv) (v : AVal) : FEnv := E.p10 (E.s10.p9 v)
noncomputable def d170 (E : FEnv) (v : AVal) : FEnv := E.p10 (E.s10.p10 v)
noncomputable def d171 (E : FEnv) (v : AVal) : FEnv := E.p10 (E.s10.p11 v)
noncomputable def d172 (E : FEnv) (v : AVal) : FEnv := E.p10 (E.s10.p12 v)
noncomputable def d173 (E : FEnv) (v : AVal) : FEnv := E.p10 (E.s10.p13 v)
noncomputable def d174 (E : FEnv) (v : AVal) : FEnv := E.p10 (E.s10.p14 v)
noncomputable def d175 (E : FEnv) (v : AVal) : FEnv := E.p10 (E.s10.p15 v)
noncomputable def d176 (E : FEnv) (v : AVal) : FEnv := E.p11 (E.s11.p0 v)
noncomputable def d177 (E : FEnv) (v : AVal) : FEnv := E.p11 (E.s11.p1 v)
noncomputable def d178 (E : FEnv) (v : AVal) : FEnv := E.p11 (E.s11.p2 v)
noncomputable def d179 (E : FEnv) (v : AVal) : FEnv := E.p11 (E.s11.p3 v)
noncomputable def d180 (E : FEnv) (v : AVal) : FEnv := E.p11 (E.s11.p4 v)
noncomputable def d181 (E : FEnv) (v : AVal) : FEnv := E.p11 (E.s11.p5 v)
noncomputable def d182 (E : FEnv) (v : AVal) : FEnv := E.p11 (E.s11.p6 v)
noncomputable def d183 (E : FEnv) (v : AVal) : FEnv := E.p11 (E.s11.p7 v)
noncomputable def d184 (E : FEnv) (v : AVal) : FEnv := E.p11 (E.s11.p8 v)
noncomputable def d185 (E : FEnv) (v : AVal) : FEnv := E.p11 (E.s11.p9 v)
noncomputable def d186 (E : FEnv) (v : AVal) : FEnv := E.p11 (E.s11.p10 v)
noncomputable def d187 (E : FEnv) (v : AVal) : FEnv := E.p11 (E.s11.p11 v)
noncomputable def d188 (E : FEnv) (v : AVal) : FEnv := E.p11 (E.s11.p12 v)
noncomputable def d189 (E : FEnv) (v : AVal) : FEnv := E.p11 (E.s11.p13 v)
noncomputable def d190 (E : FEnv) (v : AVal) : FEnv := E.p11 (E.s11.p14 v)
noncomputable def d191 (E : FEnv) (v : AVal) : FEnv := E.p11 (E.s11.p15 v)
noncomputable def d192 (E : FEnv) (v : AVal) : FEnv := E.p12 (E.s12.p0 v)
noncomputable def d193 (E : FEnv) (v : AVal) : FEnv := E.p12 (E.s12.p1 v)
noncomputable def d194 (E : FEnv) (v : AVal) : FEnv := E.p12 (E.s12.p2 v)
noncomputable def d195 (E : FEnv) (v : AVal) : FEnv := E.p12 (E.s12.p3 v)
noncomputable def d196 (E : FEnv) (v : AVal) : FEnv := E.p12 (E.s12.p4 v)
noncomputable def d197 (E : FEnv) (v : AVal) : FEnv := E.p12 (E.s12.p5 v)
noncomputable def d198 (E : FEnv) (v : AVal) : FEnv := E.p12 (E.s12.p6 v)
noncomputable def d199 (E : FEnv) (v : AVal) : FEnv := E.p12 (E.s12.p7 v)
noncomputable def d200 (E : FEnv) (v : AVal) : FEnv := E.p12 (E.s12.p8 v)
noncomputable def d201 (E : FEnv) (v : AVal) : FEnv := E.p12 (E.s12.p9 v)
noncomputable def d202 (E : FEnv) (v : AVal) : FEnv := E.p12 (E.s12.p10 v)
noncomputable def d203 (E : FEnv) (v : AVal) : FEnv := E.p12 (E.s12.p11 v)
noncomputable def d204 (E : FEnv) (v : AVal) : FEnv := E.p12 (E.s12.p12 v)
noncomputable def d205 (E : FEnv) (v : AVal) : FEnv := E.p12 (E.s12.p13 v)
noncomputable def d206 (E : FEnv) (v : AVal) : FEnv := E.p12 (E.s12.p14 v)
noncomputable def d207 (E : FEnv) (v : AVal) : FEnv := E.p12 (E.s12.p15 v)
noncomputable def d208 (E : FEnv) (v : AVal) : FEnv := E.p13 (E.s13.p0 v)
noncomputable def d209 (E : FEnv) (v : AVal) : FEnv := E.p13 (E.s13.p1 v)
noncomputable def d210 (E : FEnv) (v : AVal) : FEnv := E.p13 (E.s13.p2 v)
noncomputable def d211 (E : FEnv) (v : AVal) : FEnv := E.p13 (E.s13.p3 v)
noncomputable def d212 (E : FEnv) (v : AVal) : FEnv := E.p13 (E.s13.p4 v)
noncomputable def d213 (E : FEnv) (v : AVal) : FEnv := E.p13 (E.s13.p5 v)
noncomputable def d214 (E : FEnv) (v : AVal) : FEnv := E.p13 (E.s13.p6 v)
noncomputable def d215 (E : FEnv) (v : AVal) : FEnv := E.p13 (E.s13.p7 v)
noncomputable def d216 (E : FEnv) (v : AVal) : FEnv := E.p13 (E.s13.p8 v)
noncomputable def d217 (E : FEnv) (v : AVal) : FEnv := E.p13 (E.s13.p9 v)
noncomputable def d218 (E : FEnv) (v : AVal) : FEnv := E.p13 (E.s13.p10 v)
noncomputable def d219 (E : FEnv) (v : AVal) : FEnv := E.p13 (E.s13.p11 v)
noncomputable def d220 (E : FEnv) (v : AVal) : FEnv := E.p13 (E.s13.p12 v)
noncomputable def d221 (E : FEnv) (v : AVal) : FEnv := E.p13 (E.s13.p13 v)
noncomputable def d222 (E : FEnv) (v : AVal) : FEnv := E.p13 (E.s13.p14 v)
noncomputable def d223 (E : FEnv) (v : AVal) : FEnv := E.p13 (E.s13.p15 v)
noncomputable def d224 (E : FEnv) (v : AVal) : FEnv := E.p14 (E.s14.p0 v)
noncomputable def d225 (E : FEnv) (v : AVal) : FEnv := E.p14 (E.s14.p1 v)
noncomputable def d226 (E : FEnv) (v : AVal) : FEnv := E.p14 (E.s14.p2 v)
noncomputable def d227 (E : FEnv) (v : AVal) : FEnv := E.p14 (E.s14.p3 v)
noncomputable def d228 (E : FEnv) (v : AVal) : FEnv := E.p14 (E.s14.p4 v)
noncomputable def d229 (E : FEnv) (v : AVal) : FEnv := E.p14 (E.s14.p5 v)
noncomputable def d230 (E : FEnv) (v : AVal) : FEnv := E.p14 (E.s14.p6 v)
noncomputable def d231 (E : FEnv) (v : AVal) : FEnv := E.p14 (E.s14.p7 v)
noncomputable def d232 (E : FEnv) (v : AVal) : FEnv := E.p14 (E.s14.p8 v)
noncomputable def d233 (E : FEnv) (v : AVal) : FEnv := E.p14 (E.s14.p9 v)
noncomputable def d234 (E : FEnv) (v : AVal) : FEnv := E.p14 (E.s14.p10 v)
noncomputable def d235 (E : FEnv) (v : AVal) : FEnv := E.p14 (E.s14.p11 v)
noncomputable def d236 (E : FEnv) (v : AVal) : FEnv := E.p14 (E.s14.p12 v)
noncomputable def d237 (E : FEnv) (v : AVal) : FEnv := E.p14 (E.s14.p13 v)
noncomputable def d238 (E : FEnv) (v : AVal) : FEnv := E.p14 (E.s14.p14 v)
noncomputable def d239 (E : FEnv) (v : AVal) : FEnv := E.p14 (E.s14.p15 v)
noncomputable def d240 (E : FEnv) (v : AVal) : FEnv := E.p15 (E.s15.p0 v)
noncomputable def d241 (E : FEnv) (v : AVal) : FEnv := E.p15 (E.s15.p1 v)
noncomputable def d242 (E : FEnv) (v : AVal) : FEnv := E.p15 (E.s15.p2 v)
noncomputable def d243 (E : FEnv) (v : AVal) : FEnv := E.p15 (E.s15.p3 v)
noncomputable def d244 (E : FEnv) (v : AVal) : FEnv := E.p15 (E.s15.p4 v)
noncomputable def d245 (E : FEnv) (v : AVal) : FEnv := E.p15 (E.s15.p5 v)
noncomputable def d246 (E : FEnv) (v : AVal) : FEnv := E.p15 (E.s15.p6 v)
noncomputable def d247 (E : FEnv) (v : AVal) : FEnv := E.p15 (E.s15.p7 v)
noncomputable def d248 (E : FEnv) (v : AVal) : FEnv := E.p15 (E.s15.p8 v)
noncomputable def d249 (E : FEnv) (v : AVal) : FEnv := E.p15 (E.s15.p9 v)
noncomputable def d250 (E : FEnv) (v : AVal) : FEnv := E.p15 (E.s15.p10 v)
noncomputable def d251 (E : FEnv) (v : AVal) : FEnv := E.p15 (E.s15.p11 v)
noncomputable def d252 (E : FEnv) (v : AVal) : FEnv := E.p15 (E.s15.p12 v)
noncomputable def d253 (E : FEnv) (v : AVal) : FEnv := E.p15 (E.s15.p13 v)
noncomputable def d254 (E : FEnv) (v : AVal) : FEnv := E.p15 (E.s15.p14 v)
noncomputable def d255 (E : FEnv) (v : AVal) : FEnv := E.p15 (E.s15.p15 v)
noncomputable def dn (E : FEnv) (v : AVal) : FEnv := E

noncomputable def dstF (d : Option Nat) : FEnv → AVal → FEnv := fun E v => E.dst d v

/-- nothing that is read again, no guard -/
noncomputable def purN (d : FEnv → AVal → FEnv) (f : FEnv → Option AVal) (rest : CCl) : CCl := fun T E H k x => onOpt (f E) fun v => rest T (d E v) H k x
noncomputable def rdN (d : FEnv → AVal → FEnv) (f : FEnv → Heap → Option AVal) (rest : CCl) : CCl := fun T E H k x => onOpt (f E H) fun v => rest T (d E v) H k x
noncomputable def alN (d : FEnv → AVal → FEnv) (f : FEnv → Made) (rest : CCl) : CCl := fun T E H k x => onOpt (f E) fun p => rest T (d E (p.2 H.next)) (H.new p.1) k x
noncomputable def efN (d : FEnv → AVal → FEnv) (f : FEnv → Heap → Res) (rest : CCl) : CCl := fun T E H k x => onOpt (f E H) fun p => ifB (Nat.ble H.next p.2.next) (rest T (d E p.1) p.2 k x)
noncomputable def callN (d : FEnv → AVal → FEnv) (f : Nat) (a : FEnv → List AVal) (rest : CCl) : CCl := fun T E H k x => T f (a E) H fun v H => rest T (d E v) H k x
noncomputable def callvN (d : FEnv → AVal → FEnv) (a : FEnv → List AVal) (rest : CCl) : CCl := fun T E H k x => onFnV (a E) fun f l => T f l H fun v H => rest T (d E v) H k x
/-- the same under a guard and with what is read again -/
noncomputable def denN (o : SOper) (rest : CCl) : CCl := match o.op with
  | .pur f => purN (dstF o.dst) (fun E => f (fevs E o.args)) rest
  | .rd f => rdN (dstF o.dst) (fun E H => f (fevs E o.args) H) rest
  | .al f => alN (dstF o.dst) (fun E => f (fevs E o.args)) rest
  | .ef f => efN (dstF o.dst) (fun E H => f (fevs E o.args) H) rest
  | .call f => callN (dstF o.dst) f (fun E => fevs E o.args) rest
  | .callv => callvN (dstF o.dst) (fun E => fevs E o.args) rest
/-- what is read again, ahead of what follows -/
noncomputable def again (c : List Chk) (rest : CCl) : CCl := fun T E H k x => chkC c E H (rest T E H k x)
/-- under a guard -/
noncomputable def guardC (g : FEnv → AVal) (b : Bool) (d : FEnv → AVal → FEnv) (run rest : CCl) : CCl := fun T E H k x => onGd1 (g E) b (rest T (d E (.tup [])) H k x) (run T E H k x)
noncomputable def gdC (g : FEnv → AVal) (b : Bool) (d : FEnv → AVal → FEnv) (run : CCl → CCl) (rest : CCl) : CCl := guardC g b d (run rest) rest
noncomputable def denA (o : SOper) (rest : CCl) : CCl := match o.chk with
  | [] => denN o rest
  | c => denN o (again c rest)
noncomputable def denG (o : SOper) (rest : CCl) : CCl := match o.guard with
  | none => denA o rest
  | some (t, b) => gdC (fun E => E.fn t) b (dstF o.dst) (denA o) rest
noncomputable def denL : List SOper → CCl
  | [] => skipC
  | o :: l => denG o (denL l)

theorem denG_eq (o : SOper) (rest : CCl) : denG o rest = denOp o rest := by
  have h1 : ∀ c rest, (match o.op with
    | .pur f => purN (dstF o.dst) (fun E => f (fevs E o.args)) (again c rest)
    | .rd f => rdN (dstF o.dst) (fun E H => f (fevs E o.args) H) (again c rest)
    | .al f => alN (dstF o.dst) (fun E => f (fevs E o.args)) (again c rest)
    | .ef f => efN (dstF o.dst) (fun E H => f (fevs E o.args) H) (again c rest)
    | .call f => callN (dstF o.dst) f (fun E => fevs E o.args) (again c rest)
    | .callv => callvN (dstF o.dst) (fun E => fevs E o.args) (again c rest)) = denN o (again c rest) := fun _ _ => rfl
  have h2 : denA o rest = denN o (again o.chk rest) := by
    unfold denA
    split
    · rename_i e
      rw [e]; rfl
    · rfl
  unfold denG
  obtain ⟨d, op, args, g, chk⟩ := o
  cases g with
  | none =>
    show denA _ rest = _
    rw [h2]
    cases op <;> rfl
  | some q =>
    obtain ⟨t, b⟩ := q
    show guardC _ b _ (denA _ rest) rest = _
    rw [h2]
    cases op <;> rfl
theorem denL_eq : ∀ l : List SOper, denL l = denOps l
  | [] => rfl
  | o :: l => by
    show denG o (denL l) = denOp o (denOps l)
    rw [denG_eq, denL_eq l]

noncomputable def onB (v : AVal) (a b : R) : R := @AVal.casesOn (fun _ => R) v none none none none (fun _ => none) (fun _ => none) (fun _ _ => none) (fun _ _ _ => none) none none (fun _ => none) (fun _ _ => none) (fun t => Bool.rec (motive := fun _ => R) b a t) (fun _ _ _ _ _ => none) (fun _ _ => none) (fun _ _ => none)
theorem onB_eq {v : AVal} {a b : R} {r : AVal × Heap} (h : onB v a b = some r) : ∃ t, v = .bool t ∧ (if t then a else b) = some r := by
  cases v with
  | bool t => cases t <;> exact ⟨_, rfl, h⟩
  | _ => cases h
noncomputable def condF (c : FEnv → AVal) (a b : CCl) : CCl := fun T E H k x => onB (c E) (a T E H k x) (b T E H k x)

end Go.Am
